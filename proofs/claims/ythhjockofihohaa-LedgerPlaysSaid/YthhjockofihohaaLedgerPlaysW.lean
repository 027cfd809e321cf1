/- The walk of LedgerPlays. -/
import Derived.Test.YthhjockofihohaaPlP
import Derived.Deep.RegionHeld3
namespace Go.Proofs.Ythhjockofihohaa
open Go.RowKit
set_option maxHeartbeats 4000000 in
set_option maxRecDepth 100000 in
theorem plays_bad (w : World) (A : Option Addr) (n k : Int) (m c : Nat) (h : ¬ (1 ≤ n ∧ n ≤ 16 ∧ 1 ≤ k ∧ k ≤ 4)) :
    Calls Try.prog 5 #[.int .i64 n, .int .i64 k, .slice A m c] w fun e w' => e = .returned (.bool true) ∧ Below w.heap.size w w' := by
  have HN := Lib.hid (fun w => new_bad n k w h)
  have HR := Lib.hid (fun w => rnew_bad n k w h)
  have HW := Lib.hid (fun w => awake_calls w)
  clear h
  go_enter Try.func5, Try.ntmps5
  go_wp2_with (first
    | (go_at_call 13; (with_reducible refine (HN.out _).mono ?_); rintro e w1 ⟨rfl, rfl⟩)
    | (go_at_call 14; (with_reducible refine (HR.out _).mono ?_); rintro e w2 ⟨rfl, hh⟩; have hb2 := Lib.hid hh; clear hh)
    | (go_at_call 11; (with_reducible refine (HW.out _).mono ?_); rintro e w3 ⟨rfl, hh⟩; have hb3 := Lib.hid hh; clear hh))
  go_ret
  exact ⟨rfl, below_next (hb2.out.alloc hb2.out.size _) hb3.out⟩
set_option maxHeartbeats 4000000 in
set_option maxRecDepth 100000 in
theorem plays_good (w : World) (A : Option Addr) (n : Nat) (k : Int) (m c : Nat) (Z : Nat → LAct) (hZ : Script w A m Z) (h1 : 1 ≤ n ∧ n ≤ 16) (h2 : 1 ≤ k ∧ k ≤ 4) :
    Calls Try.prog 5 #[.int .i64 (n : Int), .int .i64 k, .slice A m c] w fun e w' => e = .returned (.bool true) ∧ Below w.heap.size w w' := by
  have HZ := Lib.hid hZ
  have HN := Lib.hid (Lw.new n k w h1 h2)
  have HR := Lib.hid (fun w => rnew_calls n k w h1 h2)
  have HW := Lib.hid (fun w => awake_calls w)
  have HF : Hid (Led.Rel (Led.fresh n k) (Led.fresh n k)) := Lib.hid (rel_fresh n k)
  have hfr : Hid ((Led.fresh n k).n = n ∧ (Led.fresh n k).goods = k) := Lib.hid ⟨rfl, rfl⟩
  generalize Led.fresh n k = x0 at HN HR HF hfr
  clear hZ h1 h2
  go_enter Try.func5, Try.ntmps5
  go_upto_region 3 with (first
    | (go_at_call 13; (refine HN.out.mono ?_); rintro e w1 ⟨g, gl, rfl, hh⟩; have H0 := Lib.hid hh; clear hh)
    | (go_at_call 14; (with_reducible refine (HR.out _).mono ?_); rintro e w2 ⟨b, o, c0, rfl, hr, hh⟩; have hR := Lib.hid hr; have hb2 := Lib.hid hh; clear hr hh))
  obtain ⟨gb, hgb⟩ : ∃ gb, w2.heap.size = gb := ⟨_, rfl⟩
  have HB0 : Hid (Both w (w2.alloc (.cells #[.int .i64 k, .slice (some ⟨b, o, none⟩) n c0] 44)) g gl gb (some ⟨b, o, none⟩) c0 x0 x0) := Lib.hid (by
    have hbx : Below w2.heap.size w2 (w2.alloc (.cells #[.int .i64 k, .slice (some ⟨b, o, none⟩) n c0] 44)) := (Below.refl _ _).alloc (Nat.le_refl _) _
    have h1 := H0.out.next hb2.out
    have p1 := h1.at_.head.lt
    have p2 := h1.at_.list.lt
    refine ⟨h1.next hbx, hR.out.below hbx, HF.out, ?_, ⟨by omega, by omega⟩, by rw [← hgb]; exact h1.all.size⟩
    rw [hfr.out.1, hfr.out.2, ← hgb]
    exact Blk.new _ _ _)
  rw [hgb]
  clear hgb H0 hR hb2 HN HR HF hfr
  generalize World.alloc w2 _ = wz at HB0 ⊢
  go_wp2
  go_loopg [11] 101 (fun gk s11 wr => ∃ (i : Nat) (x y : Led) (A' : Option Addr) (c' : Nat), gk = 101 - i ∧ i ≤ min m 100 ∧ s11 = .int .i64 (i : Int) ∧ Hid (Both w wr g gl gb A' c' x y))
  case atStart => exact ⟨0, x0, x0, _, c0, rfl, Nat.zero_le _, rfl, HB0⟩
  case round =>
    clear HB0
    obtain ⟨i, x, y, A', c', rfl, hi, rfl, H⟩ := hrel
    have i0 : (0 : Int) ≤ (i : Int) := by omega
    by_cases hgo : i < m ∧ i < 100
    · obtain ⟨hin, hi100⟩ := hgo
      have i100 : (i : Int) < 100 := by omega
      have hinI : (i : Int) < (m : Int) := by omega
      obtain ⟨bs, os, rfl⟩ := HZ.out.at_ hin
      have HY := Lib.hid (H.out.rel.rok H.out.led.at_.ok)
      have HTo := Lib.hid (fun wx (hb : Below wr.heap.size wr wx) => told_calls wx A' y (H.out.acc.below hb) HY.out c' (Z i) y.goods (Lib.hid rfl))
      have HD : Hid (∀ wx, Below wr.heap.size wr wx → Calls Try.prog 9 #[.pointer (some ⟨g, 0, none⟩), .agg (acells (Z i)).toArray] wx fun e w' => e = .returned (.int .i64 (y.ract (Z i)).2) ∧ AtL w' g gl (x.act (Z i)).1 ∧ Only (feetL gl) wx w') := Lib.hid fun wx hb => by
        rw [(Led.act_same_ref H.out.rel H.out.led.at_.ok (Z i)).1]
        exact done_only wx g gl x (H.out.led.at_.next hb) (Z i)
      have hlen : Hid (1 ≤ (y.ract (Z i)).1.n) := Lib.hid (by rw [ract_all_n]; exact HY.out.len.1)
      have HTurn := Lib.hid (fun (w1 w2 : World) (A2 : Option Addr) (c2 : Nat) hb hR hO hA ho => H.out.turn (a := Z i) (w1 := w1) (w2 := w2) (A' := A2) (c' := c2) hb hR hO hA ho)
      have HC := Lib.hid (fun wx (hb : Below wr.heap.size wr wx) => HZ.out.cells hin (below_next H.out.led.all hb))
      have HBx := Lib.hid H.out.box
      have HGl := Lib.hid (show gl < wr.heap.size from H.out.led.at_.list.lt)
      have HAway := Lib.hid H.out.away
      clear H HY
      generalize (x.act (Z i)).1 = x2 at HD HTurn
      generalize y.ract (Z i) = r at HTo HD HTurn hlen
      generalize y.goods = gd at HTo HTurn HBx
      generalize y.n = yn at HTo HTurn HBx
      unfold acells at HTo HD
      generalize (Z i).kind = y0 at HC HTo HD
      generalize (Z i).who = y1 at HC HTo HD
      generalize (Z i).dst = y2 at HC HTo HD
      generalize (Z i).good = y3 at HC HTo HD
      generalize (Z i).n = y4 at HC HTo HD
      generalize (Z i).text = y5 at HC HTo HD
      have Hd0 : Hid (Below wr.heap.size wr wr.drew) := Lib.hid (Below.refl _ _).drew
      have hSx : Hid (∀ wx, Below wr.heap.size wr wx → (wx.cell? ⟨gb, 0, none⟩ = some (.int .i64 gd) ∧ wx.cell? ⟨gb, 1, none⟩ = some (.slice A' yn c') ∧ wx.cell? ⟨bs, os + i * 6, none⟩ = some (.int .i64 y0) ∧ wx.cell? ⟨bs, os + i * 6 + 1, none⟩ = some (.int .i64 y1) ∧ wx.cell? ⟨bs, os + i * 6 + 2, none⟩ = some (.int .i64 y2) ∧ wx.cell? ⟨bs, os + i * 6 + 3, none⟩ = some (.int .i64 y3) ∧ wx.cell? ⟨bs, os + i * 6 + 4, none⟩ = some (.int .i64 y4) ∧ wx.cell? ⟨bs, os + i * 6 + 5, none⟩ = some (.string y5))) := Lib.hid fun wx hb => by
        have b1 := HBx.out.below hb HBx.out.lt
        obtain ⟨z0, z1, z2, z3, z4, z5⟩ := HC.out wx hb
        exact ⟨b1.cell 0, b1.cell 1, z0, z1, z2, z3, z4, z5⟩
      have Hd1 : Hid (Below wr.heap.size wr (wr.alloc (.cells #[.int .i64 0, .slice none 0 0] 44)).drew) := Lib.hid ((Below.refl _ _).alloc (Nat.le_refl _) _).drew
      have BN : Hid (Blk (wr.alloc (.cells #[.int .i64 0, .slice none 0 0] 44)).drew wr.heap.size 44 #[.int .i64 0, .slice none 0 0]) := Lib.hid (Blk.new wr _ _).drew
      go_upto_region 10 with (fail)
      go_region_held3 (fun wx => wx.cell? ⟨gb, 0, none⟩ = some (.int .i64 gd) ∧ wx.cell? ⟨gb, 1, none⟩ = some (.slice A' yn c') ∧ wx.cell? ⟨bs, os + i * 6, none⟩ = some (.int .i64 y0) ∧ wx.cell? ⟨bs, os + i * 6 + 1, none⟩ = some (.int .i64 y1) ∧ wx.cell? ⟨bs, os + i * 6 + 2, none⟩ = some (.int .i64 y2) ∧ wx.cell? ⟨bs, os + i * 6 + 3, none⟩ = some (.int .i64 y3) ∧ wx.cell? ⟨bs, os + i * 6 + 4, none⟩ = some (.int .i64 y4) ∧ wx.cell? ⟨bs, os + i * 6 + 5, none⟩ = some (.string y5))
        (first | exact hSx.out _ Hd0.out | exact hSx.out _ Hd1.out | exact hSx.out _ (below_next Hd0.out hb5.out) | exact hSx.out _ (below_next Hd1.out hb5.out) | exact hSx.out _ ((below_next Hd0.out hb5.out).alloc (below_next Hd0.out hb5.out).size _) | exact hSx.out _ (((below_next Hd1.out hb5.out).setCell (Nat.le_refl _) _).setCell (Nat.le_refl _) _))
        (first
          | (go_at_call 15; (refine (HTo.out _ Hd0.out).mono ?_); rintro e w3 ⟨A2, c2, rfl, hr, hh, ho⟩; have hR := Lib.hid hr; have hb5 := Lib.hid hh; have hOw := Lib.hid ho; clear hr hh ho)
          | (go_at_call 15; (refine (HTo.out _ Hd1.out).mono ?_); rintro e w3 ⟨A2, c2, rfl, hr, hh, ho⟩; have hR := Lib.hid hr; have hb5 := Lib.hid hh; have hOw := Lib.hid ho; have B12 := Lib.hid (BN.out.below hh BN.out.lt); have e0 := B12.out.cell 0; have e1 := B12.out.cell 1; have f0 := B12.out.frozen 0; have f1 := B12.out.frozen 1; clear hr hh ho; simp only [List.getElem?_toArray, List.getElem?_cons_zero, List.getElem?_cons_succ] at e0 e1))
      · have hb6 := Lib.hid (below_next Hd0.out hb5.out)
        have hbW : Hid (Below wr.heap.size wr (w3.alloc (.cells #[.int .i64 gd, .slice A2 r.1.n c2] 44))) := Lib.hid (hb6.out.alloc hb6.out.size _)
        have hbz : Below w3.heap.size w3 (w3.alloc (.cells #[.int .i64 gd, .slice A2 r.1.n c2] 44)) := (Below.refl _ _).alloc (Nat.le_refl _) _
        have BT : Hid (Blk (w3.alloc (.cells #[.int .i64 gd, .slice A2 r.1.n c2] 44)) w3.heap.size 44 #[.int .i64 gd, .slice A2 r.1.n c2]) := Lib.hid (Blk.new _ _ _)
        have RW := Lib.hid (hR.out.below hbz)
        have OW : Hid (r.2 = 0 → ∃ b o, A2 = some ⟨b, o, none⟩ ∧ ROwn wr (w3.alloc (.cells #[.int .i64 gd, .slice A2 r.1.n c2] 44)) b o c2 r.1) := Lib.hid fun h0 => by
          obtain ⟨b, o, e, h⟩ := hOw.out h0
          exact ⟨b, o, e, (h.weak Hd0.out.size).below hbz⟩
        have hgt : Hid (wr.heap.size ≤ w3.heap.size) := Lib.hid hb6.out.size
        clear hbz hb6
        generalize w3.heap.size = gt at BT hgt ⊢
        generalize World.alloc w3 _ = W at hbW BT RW OW ⊢
        have HD1 := Lib.hid (HD.out W hbW.out)
        obtain ⟨z0, z1, z2, z3, z4, z5⟩ := HC.out W hbW.out
        clear hSx HTo HD hb5 hR hOw Hd0 Hd1 BN
        go_upto_region 13 with (first
          | (go_at_call 9; (refine HD1.out.mono ?_); rintro e w5 ⟨rfl, hA, ho⟩; have HA5 := Lib.hid hA; have HO5 := Lib.hid ho; clear hA ho))
        clear z0 z1 z2 z3 z4 z5
        have hbox := HBx.out.below hbW.out HBx.out.lt
        have BT5 : Blk w5 gt 44 #[.int .i64 gd, .slice A2 r.1.n c2] := (HO5.out.block gt BT.out.lt (fun e => by have := HGl.out; have := hgt.out; have e2 : gt = gl := e; omega)).trans BT.out
        have BG5 : Blk w5 gb 44 #[.int .i64 gd, .slice A' yn c'] := (HO5.out.block gb hbox.lt HAway.out.2).trans hbox
        have t0 : w5.cell? ⟨gt, 0, none⟩ = some (.int .i64 gd) := BT5.cell 0
        have t1 : w5.cell? ⟨gt, 1, none⟩ = some (.slice A2 r.1.n c2) := BT5.cell 1
        have e0 : w5.cell? ⟨gb, 0, none⟩ = some (.int .i64 gd) := BG5.cell 0
        have e1 : w5.cell? ⟨gb, 1, none⟩ = some (.slice A' yn c') := BG5.cell 1
        have f0 := BG5.frozen 0
        have f1 := BG5.frozen 1
        have HTn := Lib.hid (HTurn.out W w5 A2 c2 hbW.out RW.out OW.out HA5.out HO5.out)
        clear hbox BT5 BG5
        go_upto_region 14 with (fail)
        clear t0 t1 e0 e1 f0 f1
        generalize World.setCell (World.setCell w5 _ _) _ _ = w6 at HTn ⊢
        have HLk := Lib.hid (like_calls w6 g gl x2 HTn.out.led.at_ A2 c2 r.1 HTn.out.acc HTn.out.rel r.1.goods)
        have b0 : w6.cell? ⟨gb, 0, none⟩ = some (.int .i64 r.1.goods) := HTn.out.box.cell 0
        have b1 : w6.cell? ⟨gb, 1, none⟩ = some (.slice A2 r.1.n c2) := HTn.out.box.cell 1
        go_wp2_with (first
          | (go_at_call 16; (refine HLk.out.mono ?_); rintro e w7 ⟨rfl, hh⟩; have hb7 := Lib.hid hh; clear hh))
        go_roundg (101 - (i + 1))
        case measure => omega
        case rel => exact ⟨i + 1, x2, r.1, A2, c2, rfl, by omega, by go_num, Lib.hid (HTn.out.next hb7.out)⟩
      · have hb6 := Lib.hid (below_next Hd1.out hb5.out)
        have hoff := hR.out.off2 hlen.out B12.out
        have hbW : Hid (Below wr.heap.size wr ((w3.setCell ⟨wr.heap.size, 0, none⟩ (.int .i64 gd)).setCell ⟨wr.heap.size, 1, none⟩ (.slice A2 r.1.n c2))) := Lib.hid ((hb6.out.setCell (Nat.le_refl _) _).setCell (Nat.le_refl _) _)
        have BT : Hid (Blk ((w3.setCell ⟨wr.heap.size, 0, none⟩ (.int .i64 gd)).setCell ⟨wr.heap.size, 1, none⟩ (.slice A2 r.1.n c2)) wr.heap.size 44 #[.int .i64 gd, .slice A2 r.1.n c2]) := Lib.hid ((B12.out.set_ 0 _).set_ 1 _)
        have RW := Lib.hid (hR.out.off_ hoff (.int .i64 gd) (.slice A2 r.1.n c2))
        have OW : Hid (r.2 = 0 → ∃ b o, A2 = some ⟨b, o, none⟩ ∧ ROwn wr ((w3.setCell ⟨wr.heap.size, 0, none⟩ (.int .i64 gd)).setCell ⟨wr.heap.size, 1, none⟩ (.slice A2 r.1.n c2)) b o c2 r.1) := Lib.hid fun h0 => by
          obtain ⟨b, o, e, h⟩ := hOw.out h0
          exact ⟨b, o, e, (h.weak Hd1.out.size).off_ (hoff b o e) _ _⟩
        have hgt : Hid (wr.heap.size ≤ wr.heap.size) := Lib.hid (Nat.le_refl _)
        clear hb6 e0 e1 f0 f1 B12 hoff
        obtain ⟨gt, hge⟩ : ∃ gt, wr.heap.size = gt := ⟨_, rfl⟩
        have hgt2 : Hid (wr.heap.size ≤ gt) := Lib.hid (by omega)
        replace hgt := hgt2
        clear hgt2
        rw [hge] at BT hbW RW OW ⊢
        generalize World.setCell (World.setCell w3 _ _) _ _ = W at hbW BT RW OW ⊢
        have hbW2 : Hid (Below wr.heap.size wr W) := Lib.hid (by rw [hge]; exact hbW.out)
        replace hbW := hbW2
        clear hbW2 hge
        have HD1 := Lib.hid (HD.out W hbW.out)
        obtain ⟨z0, z1, z2, z3, z4, z5⟩ := HC.out W hbW.out
        clear hSx HTo HD hb5 hR hOw Hd0 Hd1 BN
        go_upto_region 13 with (first
          | (go_at_call 9; (refine HD1.out.mono ?_); rintro e w5 ⟨rfl, hA, ho⟩; have HA5 := Lib.hid hA; have HO5 := Lib.hid ho; clear hA ho))
        clear z0 z1 z2 z3 z4 z5
        have hbox := HBx.out.below hbW.out HBx.out.lt
        have BT5 : Blk w5 gt 44 #[.int .i64 gd, .slice A2 r.1.n c2] := (HO5.out.block gt BT.out.lt (fun e => by have := HGl.out; have := hgt.out; have e2 : gt = gl := e; omega)).trans BT.out
        have BG5 : Blk w5 gb 44 #[.int .i64 gd, .slice A' yn c'] := (HO5.out.block gb hbox.lt HAway.out.2).trans hbox
        have t0 : w5.cell? ⟨gt, 0, none⟩ = some (.int .i64 gd) := BT5.cell 0
        have t1 : w5.cell? ⟨gt, 1, none⟩ = some (.slice A2 r.1.n c2) := BT5.cell 1
        have e0 : w5.cell? ⟨gb, 0, none⟩ = some (.int .i64 gd) := BG5.cell 0
        have e1 : w5.cell? ⟨gb, 1, none⟩ = some (.slice A' yn c') := BG5.cell 1
        have f0 := BG5.frozen 0
        have f1 := BG5.frozen 1
        have HTn := Lib.hid (HTurn.out W w5 A2 c2 hbW.out RW.out OW.out HA5.out HO5.out)
        clear hbox BT5 BG5
        go_upto_region 14 with (fail)
        clear t0 t1 e0 e1 f0 f1
        generalize World.setCell (World.setCell w5 _ _) _ _ = w6 at HTn ⊢
        have HLk := Lib.hid (like_calls w6 g gl x2 HTn.out.led.at_ A2 c2 r.1 HTn.out.acc HTn.out.rel r.1.goods)
        have b0 : w6.cell? ⟨gb, 0, none⟩ = some (.int .i64 r.1.goods) := HTn.out.box.cell 0
        have b1 : w6.cell? ⟨gb, 1, none⟩ = some (.slice A2 r.1.n c2) := HTn.out.box.cell 1
        go_wp2_with (first
          | (go_at_call 16; (refine HLk.out.mono ?_); rintro e w7 ⟨rfl, hh⟩; have hb7 := Lib.hid hh; clear hh))
        go_roundg (101 - (i + 1))
        case measure => omega
        case rel => exact ⟨i + 1, x2, r.1, A2, c2, rfl, by omega, by go_num, Lib.hid (HTn.out.next hb7.out)⟩
    · by_cases hin : i < m
      · have hi100 : ¬ i < 100 := fun h => hgo ⟨hin, h⟩
        have hi100I : ¬ (i : Int) < 100 := by omega
        have hinI : (i : Int) < (m : Int) := by omega
        clear hgo hi
        go_wp2_with (first
          | (go_at_call 11; (with_reducible refine (HW.out _).mono ?_); rintro e w3 ⟨rfl, hh⟩; have hb3 := Lib.hid hh; clear hh))
        go_ret
        exact ⟨rfl, below_next H.out.led.all hb3.out⟩
      · clear hgo hi
        go_wp2_with (first
          | (go_at_call 11; (with_reducible refine (HW.out _).mono ?_); rintro e w3 ⟨rfl, hh⟩; have hb3 := Lib.hid hh; clear hh))
        go_ret
        exact ⟨rfl, below_next H.out.led.all hb3.out⟩
theorem LedgerPlays_walk (w : World) (n : Int) (_ : (Lit.int .i64 n).wf = true) (k : Int) (_ : (Lit.int .i64 k).wf = true) (A : Option Addr) (m c : Nat) (Z : Nat → LAct) (hZ : Script w A m Z) :
    Calls Try.prog 5 #[.int .i64 n, .int .i64 k, .slice A m c] w fun e w' => e = .returned (.bool true) ∧ Below w.heap.size w w' := by
  by_cases h : 1 ≤ n ∧ n ≤ 16 ∧ 1 ≤ k ∧ k ≤ 4
  · obtain ⟨j, rfl⟩ : ∃ j : Nat, n = (j : Int) := ⟨n.toNat, by omega⟩
    exact plays_good w A j k m c Z hZ (by omega) (by omega)
  · exact plays_bad w A n k m c h
end Go.Proofs.Ythhjockofihohaa
