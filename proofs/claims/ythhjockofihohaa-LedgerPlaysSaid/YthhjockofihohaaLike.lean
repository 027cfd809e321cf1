/- like: the ledger tells what the document's has. -/
import Derived.Test.YthhjockofihohaaShw
import Derived.Test.YthhjockofihohaaRefR
import Derived.Test.YthhjockofihohaaTot
import Derived.Test.YthhjockofihohaaEq10
import Derived.Deep.RegionHeld3
namespace Go.Proofs.Ythhjockofihohaa
open Go.RowKit
theorem rel_shown {x y : Led} (h : Led.Rel x y) {i : Nat} (hi : i < x.n) : Value.agg (shw (fun p => y.z i p) (fun p => y.z i (5 + p)) 4) = .agg #[.int .i64 (x.z i 0), .int .i64 (x.z i 1), .int .i64 (x.z i 2), .int .i64 (x.z i 3), .int .i64 (x.z i 4), .int .i64 (x.z i 5), .int .i64 (x.z i 6), .int .i64 (x.z i 7), .int .i64 (x.z i 8), .int .i64 (x.z i 9)] := by
  have k : ∀ p, p < 5 → y.z i (5 + p) = x.z i (Led.kp p) := fun p hp => h.kept i p hi hp
  have f : ∀ p, p < 5 → y.z i p + y.z i (5 + p) = x.z i (Led.tp p) := fun p hp => by rw [h.free i p hi hp, h.kept i p hi hp]; omega
  have f0 := f 0 (by omega)
  have f1 := f 1 (by omega)
  have f2 := f 2 (by omega)
  have f3 := f 3 (by omega)
  have f4 := f 4 (by omega)
  have k0 := k 0 (by omega)
  have k1 := k 1 (by omega)
  have k2 := k 2 (by omega)
  have k3 := k 3 (by omega)
  have k4 := k 4 (by omega)
  simp only [Led.tp, Led.kp, Nat.reduceAdd, Nat.reduceEqDiff, if_true, if_false] at f0 f1 f2 f3 f4 k0 k1 k2 k3 k4
  simp only [shw, Nat.reduceLT, if_true, Nat.reduceAdd]
  rw [f0, f1, f2, f3, f4, k0, k1, k2, k3, k4]
set_option maxHeartbeats 4000000 in
set_option maxRecDepth 100000 in
theorem like_calls (w : World) (g gl : Nat) (x : Led) (h : AtL w g gl x) (A : Option Addr) (c : Nat) (y : Led) (hR : RAt w A y) (hrel : Led.Rel x y) (gd : Int) :
    Calls Try.prog 16 #[.pointer (some ⟨g, 0, none⟩), .agg #[.int .i64 gd, .slice A y.n c]] w fun e w' => e = .returned (.bool true) ∧ Below w.heap.size w w' := by
  have hk := hrel.rok h.ok
  have hnn := hrel.n
  obtain ⟨b, o, rfl, hbl, hcell⟩ := hR
  have HT := Lib.hid (fun wx (hb : Below w.heap.size w wx) => totals_calls wx g gl x (h.next hb))
  have HP : Hid (∀ wx, Below w.heap.size w wx → ∀ p : Nat, p < 5 → Calls Try.prog 37 #[.agg #[.int .i64 gd, .slice (some ⟨b, o, none⟩) y.n c], .int .i64 (p : Int)] wx fun e w' => e = .returned (.int .i64 (x.tot (Led.tp p))) ∧ Below wx.heap.size wx w') := Lib.hid fun wx hb p hp => by
    have := total_calls wx (some ⟨b, o, none⟩) y (RAt.below ⟨b, o, rfl, hbl, hcell⟩ hb) hk c hp gd
    rw [hrel.tot hp] at this
    exact this
  have HA := Lib.hid (fun wx (hb : Below w.heap.size w wx) i (hi : i < x.n) => account_calls wx g gl x (h.next hb) i hi)
  have HL := Lib.hid (fun wx (hb : Below w.heap.size w wx) i (hi : i < x.n) => last_calls wx g gl x (h.next hb) i hi)
  have HB := Lib.hid (fun wx (hb : Below w.heap.size w wx) who hw => account_bad wx g gl x (h.next hb) who hw)
  have HS : Hid (∀ (wx : World) i, i < x.n → Calls Try.prog 38 #[.agg #[.int .i64 (y.z i 0), .int .i64 (y.z i 1), .int .i64 (y.z i 2), .int .i64 (y.z i 3), .int .i64 (y.z i 4), .int .i64 (y.z i 5), .int .i64 (y.z i 6), .int .i64 (y.z i 7), .int .i64 (y.z i 8), .int .i64 (y.z i 9), .int .i64 (x.z i 10), .string (x.r i)]] wx fun e w' => e = .returned (.agg #[.int .i64 (x.z i 0), .int .i64 (x.z i 1), .int .i64 (x.z i 2), .int .i64 (x.z i 3), .int .i64 (x.z i 4), .int .i64 (x.z i 5), .int .i64 (x.z i 6), .int .i64 (x.z i 7), .int .i64 (x.z i 8), .int .i64 (x.z i 9)]) ∧ Below wx.heap.size wx w') := Lib.hid fun wx i hi => by
    rw [← rel_shown hrel hi]
    exact shown_calls wx (fun p => y.z i p) (fun p => y.z i (5 + p)) (x.z i 10) (x.r i) (fun p hp => hk.num i p (by omega) (by omega)) (fun p hp => hk.num i (5 + p) (by omega) (by omega))
  have HC : Hid (∀ wx, Below w.heap.size w wx → ∀ i, i < x.n → (∀ k, k < 10 → wx.cell? ⟨b, o + i * 12 + k, none⟩ = some (.int .i64 (y.z i k))) ∧ wx.cell? ⟨b, o + i * 12 + 10, none⟩ = some (.int .i64 (x.z i 10)) ∧ wx.cell? ⟨b, o + i * 12 + 11, none⟩ = some (.string (x.r i))) := Lib.hid fun wx hb i hi => by
    have hc : ∀ k, k < 12 → wx.cell? ⟨b, o + i * 12 + k, none⟩ = (lcells y)[i * 12 + k]? := fun k hk => by rw [below_cell hb hbl, Nat.add_assoc]; exact hcell _ (by omega)
    refine ⟨fun k hk => by rw [hc k (by omega), lcells_num y (by omega) (by omega)], ?_, ?_⟩
    · rw [hc 10 (by omega), lcells_num y (by omega) (by omega), hrel.stamp i hi]
    · rw [hc 11 (by omega), lcells_text y (by omega), hrel.reply i hi]
  have hn16 := h.ok.len
  rw [hnn] at HP ⊢
  clear hk hcell hrel h hbl
  generalize hm : x.n = n at HP HA HL HB HS HC hn16 ⊢
  clear hm hnn
  unfold told10 at HA
  go_enter Try.func16, Try.ntmps16
  go_upto_region 1 with (fail)
  have hb0 : Hid (Below w.heap.size w (w.alloc (.cells #[.int .i64 gd, .slice (some ⟨b, o, none⟩) n c] 44))) := Lib.hid ((Below.refl _ _).alloc (Nat.le_refl _) _)
  have B1 : Hid (Blk (w.alloc (.cells #[.int .i64 gd, .slice (some ⟨b, o, none⟩) n c] 44)) w.heap.size 44 #[.int .i64 gd, .slice (some ⟨b, o, none⟩) n c]) := Lib.hid (Blk.new _ _ _)
  obtain ⟨g1, hg1⟩ : ∃ g1, w.heap.size = g1 := ⟨_, rfl⟩
  rw [hg1] at B1 ⊢
  clear hg1
  generalize World.alloc w _ = wy at hb0 B1 ⊢
  go_upto_region 2 with (first
    | (go_at_call 8; (refine (HT.out _ hb0.out).mono ?_); rintro e w1 ⟨rfl, hh⟩; have hb1 := Lib.hid hh; clear hh))
  obtain ⟨g6, hg6⟩ : ∃ g6, w1.heap.size = g6 := ⟨_, rfl⟩
  have hb2 : Hid (Below w.heap.size w (w1.alloc (.cells #[.int .i64 (x.tot 2), .int .i64 (x.tot 3), .int .i64 (x.tot 4), .int .i64 (x.tot 5)] 27))) := Lib.hid ((below_next hb0.out hb1.out).alloc (below_next hb0.out hb1.out).size _)
  have B6 : Hid (Blk (w1.alloc (.cells #[.int .i64 (x.tot 2), .int .i64 (x.tot 3), .int .i64 (x.tot 4), .int .i64 (x.tot 5)] 27)) g6 27 #[.int .i64 (x.tot 2), .int .i64 (x.tot 3), .int .i64 (x.tot 4), .int .i64 (x.tot 5)]) := Lib.hid (by rw [← hg6]; exact Blk.new _ _ _)
  have C1 : Hid (Blk (w1.alloc (.cells #[.int .i64 (x.tot 2), .int .i64 (x.tot 3), .int .i64 (x.tot 4), .int .i64 (x.tot 5)] 27)) g1 44 #[.int .i64 gd, .slice (some ⟨b, o, none⟩) n c]) := Lib.hid ((B1.out.below hb1.out B1.out.lt).alloc _)
  rw [hg6]
  clear hg6 hb0 hb1 B1
  generalize World.alloc w1 _ = wz at hb2 B6 C1 ⊢
  have c0 : wz.cell? ⟨g1, 0, none⟩ = some (.int .i64 gd) := C1.out.cell 0
  have c1 : wz.cell? ⟨g1, 1, none⟩ = some (.slice (some ⟨b, o, none⟩) n c) := C1.out.cell 1
  have HP0 : Hid (Calls Try.prog 37 #[.agg #[.int .i64 gd, .slice (some ⟨b, o, none⟩) n c], .int .i64 0] wz fun e w' => e = .returned (.int .i64 (x.tot 0)) ∧ Below wz.heap.size wz w') := Lib.hid (HP.out _ hb2.out 0 (by omega))
  go_upto_region 4 with (first
    | (go_at_call 37; (refine HP0.out.mono ?_); rintro e w2 ⟨rfl, hh⟩; have hb3 := Lib.hid hh; clear hh))
  have hb4 := Lib.hid (below_next hb2.out hb3.out)
  have D1 := Lib.hid (C1.out.below hb3.out C1.out.lt)
  have D6 := Lib.hid (B6.out.below hb3.out B6.out.lt)
  clear c0 c1 hb2 C1 B6 HP0 hb3
  go_wp2
  go_loopg [7] 5 (fun gk s7 wr => ∃ j : Nat, gk = 5 - j ∧ j ≤ 4 ∧ s7 = .int .i64 (j : Int) ∧ Hid (Below w.heap.size w wr) ∧ Hid (Blk wr g1 44 #[.int .i64 gd, .slice (some ⟨b, o, none⟩) n c]) ∧ Hid (Blk wr g6 27 #[.int .i64 (x.tot 2), .int .i64 (x.tot 3), .int .i64 (x.tot 4), .int .i64 (x.tot 5)]))
  case atStart => exact ⟨0, rfl, Nat.zero_le _, rfl, hb4, D1, D6⟩
  case round =>
    clear hb4 D1 D6
    obtain ⟨j, rfl, hj, rfl, hb, D1, D6⟩ := hrel
    rcases (show j = 0 ∨ j = 1 ∨ j = 2 ∨ j = 3 ∨ j = 4 by omega) with rfl | rfl | rfl | rfl | rfl
    · have Hd0 : Hid (Below wr.heap.size wr wr.drew) := Lib.hid (Below.refl _ _).drew
      have hSx : Hid (∀ wx, Below wr.heap.size wr wx → (wx.cell? ⟨g1, 0, none⟩ = some (.int .i64 gd) ∧ wx.cell? ⟨g1, 1, none⟩ = some (.slice (some ⟨b, o, none⟩) n c) ∧ wx.cell? ⟨g6, 0, none⟩ = some (.int .i64 (x.tot 2)))) := Lib.hid fun wx hb => by
        have b1 := D1.out.below hb D1.out.lt
        have b6 := D6.out.below hb D6.out.lt
        exact ⟨b1.cell 0, b1.cell 1, b6.cell 0⟩
      have HP1 : Hid (Calls Try.prog 37 #[.agg #[.int .i64 gd, .slice (some ⟨b, o, none⟩) n c], .int .i64 1] wr.drew fun e w' => e = .returned (.int .i64 (x.tot 2)) ∧ Below wr.drew.heap.size wr.drew w') := Lib.hid (HP.out _ (below_next hb.out Hd0.out) 1 (by omega))
      go_upto_region 7 with (fail)
      go_region_held3 (fun wx => wx.cell? ⟨g1, 0, none⟩ = some (.int .i64 gd) ∧ wx.cell? ⟨g1, 1, none⟩ = some (.slice (some ⟨b, o, none⟩) n c) ∧ wx.cell? ⟨g6, 0, none⟩ = some (.int .i64 (x.tot 2)))
        (first | exact hSx.out _ Hd0.out | exact hSx.out _ (below_next Hd0.out hb5.out))
        (first
          | (go_at_call 37; (refine HP1.out.mono ?_); rintro e w3 ⟨rfl, hh⟩; have hb5 := Lib.hid hh; clear hh))
      have hb6 := Lib.hid (below_next Hd0.out hb5.out)
      clear hSx HP1
      go_wp2
      go_roundg (5 - (0 + 1))
      case measure => omega
      case rel => exact ⟨0 + 1, rfl, by omega, rfl, Lib.hid (below_next hb.out hb6.out), Lib.hid (D1.out.below hb6.out D1.out.lt), Lib.hid (D6.out.below hb6.out D6.out.lt)⟩
    · have Hd0 : Hid (Below wr.heap.size wr wr.drew) := Lib.hid (Below.refl _ _).drew
      have hSx : Hid (∀ wx, Below wr.heap.size wr wx → (wx.cell? ⟨g1, 0, none⟩ = some (.int .i64 gd) ∧ wx.cell? ⟨g1, 1, none⟩ = some (.slice (some ⟨b, o, none⟩) n c) ∧ wx.cell? ⟨g6, 1, none⟩ = some (.int .i64 (x.tot 3)))) := Lib.hid fun wx hb => by
        have b1 := D1.out.below hb D1.out.lt
        have b6 := D6.out.below hb D6.out.lt
        exact ⟨b1.cell 0, b1.cell 1, b6.cell 1⟩
      have HP1 : Hid (Calls Try.prog 37 #[.agg #[.int .i64 gd, .slice (some ⟨b, o, none⟩) n c], .int .i64 2] wr.drew fun e w' => e = .returned (.int .i64 (x.tot 3)) ∧ Below wr.drew.heap.size wr.drew w') := Lib.hid (HP.out _ (below_next hb.out Hd0.out) 2 (by omega))
      go_upto_region 7 with (fail)
      go_region_held3 (fun wx => wx.cell? ⟨g1, 0, none⟩ = some (.int .i64 gd) ∧ wx.cell? ⟨g1, 1, none⟩ = some (.slice (some ⟨b, o, none⟩) n c) ∧ wx.cell? ⟨g6, 1, none⟩ = some (.int .i64 (x.tot 3)))
        (first | exact hSx.out _ Hd0.out | exact hSx.out _ (below_next Hd0.out hb5.out))
        (first
          | (go_at_call 37; (refine HP1.out.mono ?_); rintro e w3 ⟨rfl, hh⟩; have hb5 := Lib.hid hh; clear hh))
      have hb6 := Lib.hid (below_next Hd0.out hb5.out)
      clear hSx HP1
      go_wp2
      go_roundg (5 - (1 + 1))
      case measure => omega
      case rel => exact ⟨1 + 1, rfl, by omega, rfl, Lib.hid (below_next hb.out hb6.out), Lib.hid (D1.out.below hb6.out D1.out.lt), Lib.hid (D6.out.below hb6.out D6.out.lt)⟩
    · have Hd0 : Hid (Below wr.heap.size wr wr.drew) := Lib.hid (Below.refl _ _).drew
      have hSx : Hid (∀ wx, Below wr.heap.size wr wx → (wx.cell? ⟨g1, 0, none⟩ = some (.int .i64 gd) ∧ wx.cell? ⟨g1, 1, none⟩ = some (.slice (some ⟨b, o, none⟩) n c) ∧ wx.cell? ⟨g6, 2, none⟩ = some (.int .i64 (x.tot 4)))) := Lib.hid fun wx hb => by
        have b1 := D1.out.below hb D1.out.lt
        have b6 := D6.out.below hb D6.out.lt
        exact ⟨b1.cell 0, b1.cell 1, b6.cell 2⟩
      have HP1 : Hid (Calls Try.prog 37 #[.agg #[.int .i64 gd, .slice (some ⟨b, o, none⟩) n c], .int .i64 3] wr.drew fun e w' => e = .returned (.int .i64 (x.tot 4)) ∧ Below wr.drew.heap.size wr.drew w') := Lib.hid (HP.out _ (below_next hb.out Hd0.out) 3 (by omega))
      go_upto_region 7 with (fail)
      go_region_held3 (fun wx => wx.cell? ⟨g1, 0, none⟩ = some (.int .i64 gd) ∧ wx.cell? ⟨g1, 1, none⟩ = some (.slice (some ⟨b, o, none⟩) n c) ∧ wx.cell? ⟨g6, 2, none⟩ = some (.int .i64 (x.tot 4)))
        (first | exact hSx.out _ Hd0.out | exact hSx.out _ (below_next Hd0.out hb5.out))
        (first
          | (go_at_call 37; (refine HP1.out.mono ?_); rintro e w3 ⟨rfl, hh⟩; have hb5 := Lib.hid hh; clear hh))
      have hb6 := Lib.hid (below_next Hd0.out hb5.out)
      clear hSx HP1
      go_wp2
      go_roundg (5 - (2 + 1))
      case measure => omega
      case rel => exact ⟨2 + 1, rfl, by omega, rfl, Lib.hid (below_next hb.out hb6.out), Lib.hid (D1.out.below hb6.out D1.out.lt), Lib.hid (D6.out.below hb6.out D6.out.lt)⟩
    · have Hd0 : Hid (Below wr.heap.size wr wr.drew) := Lib.hid (Below.refl _ _).drew
      have hSx : Hid (∀ wx, Below wr.heap.size wr wx → (wx.cell? ⟨g1, 0, none⟩ = some (.int .i64 gd) ∧ wx.cell? ⟨g1, 1, none⟩ = some (.slice (some ⟨b, o, none⟩) n c) ∧ wx.cell? ⟨g6, 3, none⟩ = some (.int .i64 (x.tot 5)))) := Lib.hid fun wx hb => by
        have b1 := D1.out.below hb D1.out.lt
        have b6 := D6.out.below hb D6.out.lt
        exact ⟨b1.cell 0, b1.cell 1, b6.cell 3⟩
      have HP1 : Hid (Calls Try.prog 37 #[.agg #[.int .i64 gd, .slice (some ⟨b, o, none⟩) n c], .int .i64 4] wr.drew fun e w' => e = .returned (.int .i64 (x.tot 5)) ∧ Below wr.drew.heap.size wr.drew w') := Lib.hid (HP.out _ (below_next hb.out Hd0.out) 4 (by omega))
      go_upto_region 7 with (fail)
      go_region_held3 (fun wx => wx.cell? ⟨g1, 0, none⟩ = some (.int .i64 gd) ∧ wx.cell? ⟨g1, 1, none⟩ = some (.slice (some ⟨b, o, none⟩) n c) ∧ wx.cell? ⟨g6, 3, none⟩ = some (.int .i64 (x.tot 5)))
        (first | exact hSx.out _ Hd0.out | exact hSx.out _ (below_next Hd0.out hb5.out))
        (first
          | (go_at_call 37; (refine HP1.out.mono ?_); rintro e w3 ⟨rfl, hh⟩; have hb5 := Lib.hid hh; clear hh))
      have hb6 := Lib.hid (below_next Hd0.out hb5.out)
      clear hSx HP1
      go_wp2
      go_roundg (5 - (3 + 1))
      case measure => omega
      case rel => exact ⟨3 + 1, rfl, by omega, rfl, Lib.hid (below_next hb.out hb6.out), Lib.hid (D1.out.below hb6.out D1.out.lt), Lib.hid (D6.out.below hb6.out D6.out.lt)⟩
    · go_wp2
      clear D6
      go_loopg [8] (n + 1) (fun gk s8 wr => ∃ i : Nat, gk = n + 1 - i ∧ i ≤ n ∧ s8 = .int .i64 (i : Int) ∧ Hid (Below w.heap.size w wr) ∧ Hid (Blk wr g1 44 #[.int .i64 gd, .slice (some ⟨b, o, none⟩) n c]))
      case atStart => exact ⟨0, rfl, Nat.zero_le _, rfl, hb, D1⟩
      case round =>
        clear hb D1
        obtain ⟨i, rfl, hi, rfl, hb, D1⟩ := hrel
        have i0 : (0 : Int) ≤ (i : Int) := by omega
        have c1 : wr.cell? ⟨g1, 1, none⟩ = some (.slice (some ⟨b, o, none⟩) n c) := D1.out.cell 1
        by_cases hlt : i < n
        · have hltI : (i : Int) < (n : Int) := by omega
          have HA1 := Lib.hid (HA.out _ hb.out i hlt)
          go_upto_region 13 with (first
            | (go_at_call 12; (refine HA1.out.mono ?_); rintro e w3 ⟨rfl, hh⟩; have hb3 := Lib.hid hh; clear hh))
          obtain ⟨ga, hga⟩ : ∃ ga, w3.heap.size = ga := ⟨_, rfl⟩
          have hb4 : Hid (Below w.heap.size w (w3.alloc (.cells #[.int .i64 (x.z i 0), .int .i64 (x.z i 1), .int .i64 (x.z i 2), .int .i64 (x.z i 3), .int .i64 (x.z i 4), .int .i64 (x.z i 5), .int .i64 (x.z i 6), .int .i64 (x.z i 7), .int .i64 (x.z i 8), .int .i64 (x.z i 9)] 36))) := Lib.hid ((below_next hb.out hb3.out).alloc (below_next hb.out hb3.out).size _)
          have B9 : Hid (Blk (w3.alloc (.cells #[.int .i64 (x.z i 0), .int .i64 (x.z i 1), .int .i64 (x.z i 2), .int .i64 (x.z i 3), .int .i64 (x.z i 4), .int .i64 (x.z i 5), .int .i64 (x.z i 6), .int .i64 (x.z i 7), .int .i64 (x.z i 8), .int .i64 (x.z i 9)] 36)) ga 36 #[.int .i64 (x.z i 0), .int .i64 (x.z i 1), .int .i64 (x.z i 2), .int .i64 (x.z i 3), .int .i64 (x.z i 4), .int .i64 (x.z i 5), .int .i64 (x.z i 6), .int .i64 (x.z i 7), .int .i64 (x.z i 8), .int .i64 (x.z i 9)]) := Lib.hid (by rw [← hga]; exact Blk.new _ _ _)
          have E1 : Hid (Blk (w3.alloc (.cells #[.int .i64 (x.z i 0), .int .i64 (x.z i 1), .int .i64 (x.z i 2), .int .i64 (x.z i 3), .int .i64 (x.z i 4), .int .i64 (x.z i 5), .int .i64 (x.z i 6), .int .i64 (x.z i 7), .int .i64 (x.z i 8), .int .i64 (x.z i 9)] 36)) g1 44 #[.int .i64 gd, .slice (some ⟨b, o, none⟩) n c]) := Lib.hid ((D1.out.below hb3.out D1.out.lt).alloc _)
          rw [hga]
          clear hga hb hb3 D1 c1 HA1
          generalize World.alloc w3 _ = wz at hb4 B9 E1 ⊢
          have HL1 := Lib.hid (HL.out _ hb4.out i hlt)
          go_upto_region 14 with (first
            | (go_at_call 18; (refine HL1.out.mono ?_); rintro e w4 ⟨rfl, d, hh⟩; have hb5 := Lib.hid (show Below wz.heap.size wz w4 from by rw [hh]; exact below_draw (Below.refl _ _) d); clear hh))
          have hb6 := Lib.hid (below_next hb4.out hb5.out)
          have F9 := Lib.hid (B9.out.below hb5.out B9.out.lt)
          have F1 := Lib.hid (E1.out.below hb5.out E1.out.lt)
          clear hb4 hb5 B9 E1 HL1
          have Hd0 : Hid (Below w4.heap.size w4 w4.drew) := Lib.hid (Below.refl _ _).drew
          have hSx : Hid (∀ wx, Below w4.heap.size w4 wx → (wx.cell? ⟨ga, 0, none⟩ = some (.int .i64 (x.z i 0)) ∧ wx.cell? ⟨ga, 1, none⟩ = some (.int .i64 (x.z i 1)) ∧ wx.cell? ⟨ga, 2, none⟩ = some (.int .i64 (x.z i 2)) ∧ wx.cell? ⟨ga, 3, none⟩ = some (.int .i64 (x.z i 3)) ∧ wx.cell? ⟨ga, 4, none⟩ = some (.int .i64 (x.z i 4)) ∧ wx.cell? ⟨ga, 5, none⟩ = some (.int .i64 (x.z i 5)) ∧ wx.cell? ⟨ga, 6, none⟩ = some (.int .i64 (x.z i 6)) ∧ wx.cell? ⟨ga, 7, none⟩ = some (.int .i64 (x.z i 7)) ∧ wx.cell? ⟨ga, 8, none⟩ = some (.int .i64 (x.z i 8)) ∧ wx.cell? ⟨ga, 9, none⟩ = some (.int .i64 (x.z i 9)) ∧ wx.cell? ⟨g1, 1, none⟩ = some (.slice (some ⟨b, o, none⟩) n c) ∧ wx.cell? ⟨b, o + i * 12, none⟩ = some (.int .i64 (y.z i 0)) ∧ wx.cell? ⟨b, o + i * 12 + 1, none⟩ = some (.int .i64 (y.z i 1)) ∧ wx.cell? ⟨b, o + i * 12 + 2, none⟩ = some (.int .i64 (y.z i 2)) ∧ wx.cell? ⟨b, o + i * 12 + 3, none⟩ = some (.int .i64 (y.z i 3)) ∧ wx.cell? ⟨b, o + i * 12 + 4, none⟩ = some (.int .i64 (y.z i 4)) ∧ wx.cell? ⟨b, o + i * 12 + 5, none⟩ = some (.int .i64 (y.z i 5)) ∧ wx.cell? ⟨b, o + i * 12 + 6, none⟩ = some (.int .i64 (y.z i 6)) ∧ wx.cell? ⟨b, o + i * 12 + 7, none⟩ = some (.int .i64 (y.z i 7)) ∧ wx.cell? ⟨b, o + i * 12 + 8, none⟩ = some (.int .i64 (y.z i 8)) ∧ wx.cell? ⟨b, o + i * 12 + 9, none⟩ = some (.int .i64 (y.z i 9)) ∧ wx.cell? ⟨b, o + i * 12 + 10, none⟩ = some (.int .i64 (x.z i 10)) ∧ wx.cell? ⟨b, o + i * 12 + 11, none⟩ = some (.string (x.r i)))) := Lib.hid fun wx hbx => by
            have b9 := F9.out.below hbx F9.out.lt
            have b1 := F1.out.below hbx F1.out.lt
            obtain ⟨h1, h2, h3⟩ := HC.out wx (below_next hb6.out hbx) i hlt
            exact ⟨b9.cell 0, b9.cell 1, b9.cell 2, b9.cell 3, b9.cell 4, b9.cell 5, b9.cell 6, b9.cell 7, b9.cell 8, b9.cell 9, b1.cell 1, h1 0 (by omega), h1 1 (by omega), h1 2 (by omega), h1 3 (by omega), h1 4 (by omega), h1 5 (by omega), h1 6 (by omega), h1 7 (by omega), h1 8 (by omega), h1 9 (by omega), h2, h3⟩
          have HS1 := Lib.hid (HS.out w4.drew i hlt)
          have hq := fun w1 => eq10 w1 (x.z i 0) (x.z i 1) (x.z i 2) (x.z i 3) (x.z i 4) (x.z i 5) (x.z i 6) (x.z i 7) (x.z i 8) (x.z i 9)
          go_region_held3 (fun wx => wx.cell? ⟨ga, 0, none⟩ = some (.int .i64 (x.z i 0)) ∧ wx.cell? ⟨ga, 1, none⟩ = some (.int .i64 (x.z i 1)) ∧ wx.cell? ⟨ga, 2, none⟩ = some (.int .i64 (x.z i 2)) ∧ wx.cell? ⟨ga, 3, none⟩ = some (.int .i64 (x.z i 3)) ∧ wx.cell? ⟨ga, 4, none⟩ = some (.int .i64 (x.z i 4)) ∧ wx.cell? ⟨ga, 5, none⟩ = some (.int .i64 (x.z i 5)) ∧ wx.cell? ⟨ga, 6, none⟩ = some (.int .i64 (x.z i 6)) ∧ wx.cell? ⟨ga, 7, none⟩ = some (.int .i64 (x.z i 7)) ∧ wx.cell? ⟨ga, 8, none⟩ = some (.int .i64 (x.z i 8)) ∧ wx.cell? ⟨ga, 9, none⟩ = some (.int .i64 (x.z i 9)) ∧ wx.cell? ⟨g1, 1, none⟩ = some (.slice (some ⟨b, o, none⟩) n c) ∧ wx.cell? ⟨b, o + i * 12, none⟩ = some (.int .i64 (y.z i 0)) ∧ wx.cell? ⟨b, o + i * 12 + 1, none⟩ = some (.int .i64 (y.z i 1)) ∧ wx.cell? ⟨b, o + i * 12 + 2, none⟩ = some (.int .i64 (y.z i 2)) ∧ wx.cell? ⟨b, o + i * 12 + 3, none⟩ = some (.int .i64 (y.z i 3)) ∧ wx.cell? ⟨b, o + i * 12 + 4, none⟩ = some (.int .i64 (y.z i 4)) ∧ wx.cell? ⟨b, o + i * 12 + 5, none⟩ = some (.int .i64 (y.z i 5)) ∧ wx.cell? ⟨b, o + i * 12 + 6, none⟩ = some (.int .i64 (y.z i 6)) ∧ wx.cell? ⟨b, o + i * 12 + 7, none⟩ = some (.int .i64 (y.z i 7)) ∧ wx.cell? ⟨b, o + i * 12 + 8, none⟩ = some (.int .i64 (y.z i 8)) ∧ wx.cell? ⟨b, o + i * 12 + 9, none⟩ = some (.int .i64 (y.z i 9)) ∧ wx.cell? ⟨b, o + i * 12 + 10, none⟩ = some (.int .i64 (x.z i 10)) ∧ wx.cell? ⟨b, o + i * 12 + 11, none⟩ = some (.string (x.r i)))
            (first | exact hSx.out _ Hd0.out | exact hSx.out _ (below_next Hd0.out hb7.out))
            (first
              | (go_at_call 38; (refine HS1.out.mono ?_); rintro e w5 ⟨rfl, hh⟩; have hb7 := Lib.hid hh; clear hh))
          have hb8 := Lib.hid (below_next Hd0.out hb7.out)
          clear hSx HS1 hq
          go_wp2
          go_roundg (n + 1 - (i + 1))
          case measure => omega
          case rel => exact ⟨i + 1, rfl, by omega, by go_num, Lib.hid (below_next hb6.out hb8.out), Lib.hid (F1.out.below hb8.out F1.out.lt)⟩
        · obtain rfl : n = i := by omega
          have HB1 := Lib.hid (HB.out _ hb.out (-1) (.inl (by omega)))
          go_upto_region 17 with (first
            | (go_at_call 12; (refine HB1.out.mono ?_); rintro e w3 ⟨rfl, hh⟩; have hb3 := Lib.hid hh; clear hh))
          have hb4 : Hid (Below w.heap.size w (w3.alloc (.cells #[.int .i64 0, .int .i64 0, .int .i64 0, .int .i64 0, .int .i64 0, .int .i64 0, .int .i64 0, .int .i64 0, .int .i64 0, .int .i64 0] 36))) := Lib.hid ((below_next hb.out hb3.out).alloc (below_next hb.out hb3.out).size _)
          have E1 : Hid (Blk (w3.alloc (.cells #[.int .i64 0, .int .i64 0, .int .i64 0, .int .i64 0, .int .i64 0, .int .i64 0, .int .i64 0, .int .i64 0, .int .i64 0, .int .i64 0] 36)) g1 44 #[.int .i64 gd, .slice (some ⟨b, o, none⟩) n c]) := Lib.hid ((D1.out.below hb3.out D1.out.lt).alloc _)
          clear hb hb3 D1 c1 HB1
          generalize World.alloc w3 _ = wz at hb4 E1 ⊢
          have c1 : wz.cell? ⟨g1, 1, none⟩ = some (.slice (some ⟨b, o, none⟩) n c) := E1.out.cell 1
          have HB2 := Lib.hid (HB.out _ hb4.out (n : Int) (.inr (Int.le_refl _)))
          go_wp2_with (first
            | (go_at_call 12; (refine HB2.out.mono ?_); rintro e w5 ⟨rfl, hh⟩; have hb5 := Lib.hid hh; clear hh))
          go_ret
          exact ⟨rfl, (below_next hb4.out hb5.out).alloc (below_next hb4.out hb5.out).size _⟩
end Go.Proofs.Ythhjockofihohaa
