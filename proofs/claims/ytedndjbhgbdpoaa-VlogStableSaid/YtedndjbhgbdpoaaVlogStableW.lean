/- The walk of VlogStable: a stable checkpoint has as many signers as must be, rising; fewer never make one. -/
import Derived.Test.YtedndjbhgbdpoaaVz
namespace Go.Proofs.Ytedndjbhgbdpoaa
open Go.RowKit
theorem rows_none (w : World) : iarr Vl.seven.sq = #[.int .i64 0, .int .i64 0, .int .i64 0, .int .i64 0, .int .i64 0, .int .i64 0, .int .i64 0] ∧ sarr Vl.seven.rt = #[.string ⟨#[]⟩, .string ⟨#[]⟩, .string ⟨#[]⟩, .string ⟨#[]⟩, .string ⟨#[]⟩, .string ⟨#[]⟩, .string ⟨#[]⟩] := by
  have := w
  exact ⟨rfl, rfl⟩
theorem begun_none (w : World) : Calls Try.prog 19 #[.slice none 0 0] w (Begins w Vl.seven) := begun_calls w none 0 0 (fun _ => ⟨0, 0, 0, 0, noText, noText⟩) (.inl rfl)
theorem rising_get {L : List Sg} (h : Rising L) {i j : Nat} (hij : i < j) (hj : j < L.length) : (L.getD i Sg.none).frm < (L.getD j Sg.none).frm := by
  rw [List.getD_eq_getElem?_getD, List.getD_eq_getElem?_getD, List.getElem?_eq_getElem (by omega), List.getElem?_eq_getElem hj]
  exact List.pairwise_iff_getElem.1 h i j (by omega) hj hij
theorem sameN_yes {f : Nat → Int} {h : Nat → ByteArray} {k j : Nat} (h1 : 0 < f k) (h2 : f j = f k) (h3 : h j = h k) : sameN f h k (j + 1) = sameN f h k j + 1 := by
  rw [sameN_snoc, if_pos (show alikeB f h k j = true from decide_eq_true ⟨h1, h2, h3⟩)]
theorem sameN_no {f : Nat → Int} {h : Nat → ByteArray} {k j : Nat} (h1 : ¬ (0 < f k ∧ f j = f k ∧ h j = h k)) : sameN f h k (j + 1) = sameN f h k j := by
  rw [sameN_snoc, if_neg (by unfold alikeB; simpa using h1), Nat.add_zero]
set_option maxHeartbeats 16000000 in
set_option maxRecDepth 100000 in
theorem VlogStable_walk (w : World) (A : Option Addr) (n c : Nat) (Z : Nat → VAct) (hZ : Script w A n Z) :
    Calls Try.prog 8 #[.slice A n c] w fun e w' => e = .returned (.bool true) ∧ Below w.heap.size w w' := by
  have HA := Lib.hid (fun w => awake_calls w)
  have HBg := Lib.hid (begun_none w)
  have HZ := Lib.hid hZ
  clear hZ
  go_enter Try.func8, Try.ntmps8
  go_upto_region 2 with (first
    | (go_at_call 19; (refine (HBg.out).mono ?_); rintro e w1 ⟨g, rfl, h⟩; have H1 := Lib.hid h; clear h))
  go_upto_region 6 with (fail)
  obtain ⟨ws, hws⟩ : ∃ ws, ws = (w1.alloc (.cells #[.int .i64 0, .int .i64 0, .int .i64 0, .int .i64 0, .int .i64 0, .int .i64 0, .int .i64 0] 58)).alloc (.cells #[.string ⟨#[]⟩, .string ⟨#[]⟩, .string ⟨#[]⟩, .string ⟨#[]⟩, .string ⟨#[]⟩, .string ⟨#[]⟩, .string ⟨#[]⟩] 59) := ⟨_, rfl⟩
  have hb3 : Hid (Below w1.heap.size w1 ws) := Lib.hid (by rw [hws]; exact ((Below.refl _ _).alloc (Nat.le_refl _) _).alloc (by simp) _)
  have hB0 : Hid (Blk ws w1.heap.size 58 (iarr Vl.seven.sq)) := Lib.hid (by rw [hws, (rows_none w).1]; exact (Blk.new _ _ _).alloc _)
  have hB1 : Hid (Blk ws (w1.heap.size + 1) 59 (sarr Vl.seven.rt)) := Lib.hid (by rw [hws, (rows_none w).2]; have := Blk.new (w1.alloc (.cells #[.int .i64 0, .int .i64 0, .int .i64 0, .int .i64 0, .int .i64 0, .int .i64 0, .int .i64 0] 58)) 59 #[.string ⟨#[]⟩, .string ⟨#[]⟩, .string ⟨#[]⟩, .string ⟨#[]⟩, .string ⟨#[]⟩, .string ⟨#[]⟩, .string ⟨#[]⟩]; simpa using this)
  have hV0 := Lib.hid (Vz.start H1.out hb3.out (Nat.le_refl _) (Nat.le_succ _) hB0.out.lt hB1.out.lt)
  rw [← hws]
  clear hws hb3
  obtain ⟨gs, hgs⟩ : ∃ gs, w1.heap.size = gs := ⟨_, rfl⟩
  rw [hgs] at hB0 hB1 hV0 ⊢
  clear hgs H1 HBg
  go_wp2
  go_loopg [6] 61 (fun gk s6 wr => ∃ (i : Nat) (l : Vl), gk = 61 - i ∧ i ≤ 60 ∧ s6 = .int .i64 (i : Int) ∧ Hid (Vz w wr g l gs (gs + 1)) ∧ Hid (Vl.CI l) ∧ Hid (Blk wr gs 58 (iarr l.sq)) ∧ Hid (Blk wr (gs + 1) 59 (sarr l.rt)))
  case atStart => exact ⟨0, Vl.seven, rfl, by omega, rfl, hV0, Lib.hid Vl.ci_seven, hB0, hB1⟩
  case round =>
    clear hV0 hB0 hB1
    obtain ⟨i, l, rfl, hi, rfl, H, HCI, HI, HS⟩ := hrel
    have i0 : (0 : Int) ≤ (i : Int) := by omega
    by_cases hgo : i < n ∧ i < 60
    · obtain ⟨hin, hi60⟩ := hgo
      have i60 : (i : Int) < 60 := by omega
      have hinI : (i : Int) < (n : Int) := by omega
      obtain ⟨b, o, rfl⟩ := HZ.out.at_ hin
      obtain ⟨z0, z1, z2, z3, z4, z5⟩ := HZ.out.cells hin H.out.all
      generalize (Z i).kind = kd at z0
      generalize (Z i).frm = fr at z1
      generalize (Z i).view = vw at z2
      generalize (Z i).seq = sq at z3
      generalize (Z i).d = d at z4
      generalize (Z i).t = t at z5
      have HLaw := Lib.hid (Vl.check_law HCI.out ⟨4, fr, vw, sq, d, t⟩ rfl)
      go_upto_region 10 with (fail)
      have hby : Hid (Below wr.heap.size wr (wr.alloc (.cells #[.int .i64 kd, .int .i64 fr, .int .i64 vw, .int .i64 sq, .string d, .string t] 32))) := Lib.hid ((Below.refl _ _).alloc (Nat.le_refl _) _)
      have BX : Hid (Blk (wr.alloc (.cells #[.int .i64 kd, .int .i64 fr, .int .i64 vw, .int .i64 sq, .string d, .string t] 32)) wr.heap.size 32 #[.int .i64 kd, .int .i64 fr, .int .i64 vw, .int .i64 sq, .string d, .string t]) := Lib.hid (Blk.new _ _ _)
      clear z0 z1 z2 z3 z4 z5
      obtain ⟨gb, hgb⟩ : ∃ gb, wr.heap.size = gb := ⟨_, rfl⟩
      have HGB := Lib.hid hgb
      rw [hgb] at BX ⊢
      clear hgb
      generalize World.alloc wr _ = wy at hby BX ⊢
      have x0 : wy.cell? ⟨gb, 0, none⟩ = some (.int .i64 kd) := BX.out.cell 0
      have f0 := BX.out.frozen 0
      go_upto_region 11 with (fail)
      have BX2 : Hid (Blk (wy.setCell ⟨gb, 0, none⟩ (.int .i64 4)) gb 32 #[.int .i64 4, .int .i64 fr, .int .i64 vw, .int .i64 sq, .string d, .string t]) := Lib.hid (BX.out.set_ 0 (.int .i64 4))
      have hbz : Hid (Below wr.heap.size wr (wy.setCell ⟨gb, 0, none⟩ (.int .i64 4))) := Lib.hid (hby.out.setCell (by rw [HGB.out]; exact Nat.le_refl _) _)
      clear x0 f0 BX hby
      generalize World.setCell wy _ _ = wz at BX2 hbz ⊢
      have H2 := Lib.hid (H.out.next hbz.out)
      have HI2 := Lib.hid (HI.out.below hbz.out HI.out.lt)
      have HS2 := Lib.hid (HS.out.below hbz.out HS.out.lt)
      have b0 : wz.cell? ⟨gb, 0, none⟩ = some (.int .i64 4) := BX2.out.cell 0
      have b1 : wz.cell? ⟨gb, 1, none⟩ = some (.int .i64 fr) := BX2.out.cell 1
      have b2 : wz.cell? ⟨gb, 2, none⟩ = some (.int .i64 vw) := BX2.out.cell 2
      have b3 : wz.cell? ⟨gb, 3, none⟩ = some (.int .i64 sq) := BX2.out.cell 3
      have b4 : wz.cell? ⟨gb, 4, none⟩ = some (.string d) := BX2.out.cell 4
      have b5 : wz.cell? ⟨gb, 5, none⟩ = some (.string t) := BX2.out.cell 5
      have HD := Lib.hid (H.out.done3 hbz.out ⟨4, fr, vw, sq, d, t⟩)
      unfold acells at HD
      simp only at HLaw
      have hgbw : Hid (gb < wz.heap.size ∧ gb ≠ gs ∧ gb ≠ gs + 1) := Lib.hid ⟨BX2.out.lt, by have := HI.out.lt; have := HGB.out; omega, by have := HS.out.lt; have := HGB.out; omega⟩
      generalize l.act ⟨4, fr, vw, sq, d, t⟩ = re at HD HLaw
      obtain ⟨l2, cc⟩ := re
      simp only at HD
      have hbox : Hid (∀ wx, Vz w wx g l2 gs (gs + 1) → wx.heap[gb]? = wz.heap[gb]? → wx.cell? ⟨gb, 1, none⟩ = some (.int .i64 fr) ∧ wx.cell? ⟨gb, 3, none⟩ = some (.int .i64 sq) ∧ wx.cell? ⟨gb, 4, none⟩ = some (.string d)) := Lib.hid fun wx _ e => by
        have B : Blk wx gb 32 #[.int .i64 4, .int .i64 fr, .int .i64 vw, .int .i64 sq, .string d, .string t] := e.trans BX2.out
        exact ⟨B.cell 1, B.cell 3, B.cell 4⟩
      rcases HLaw.out with ⟨hc0, hfr0, hfr7, hci, hsq, hrt⟩ | ⟨hc0, hl2⟩
      · simp only at hc0
        subst hc0
        obtain ⟨fj, hfj⟩ : ∃ fj : Nat, fr = (fj : Int) := ⟨fr.toNat, by omega⟩
        subst hfj
        have hfj7 : fj < 7 := by omega
        have HCI2 := Lib.hid hci
        have HSq : Hid (∀ j, l2.sq j = if j = fj then sq else l.sq j) := Lib.hid fun j => by
          have := hsq j
          rw [this]
          by_cases e : j = fj
          · rw [if_pos e, if_pos (by omega)]
          · rw [if_neg e, if_neg (by omega)]
        have HRt : Hid (∀ j, l2.rt j = if j = fj then d else l.rt j) := Lib.hid fun j => by
          have := hrt j
          rw [this]
          by_cases e : j = fj
          · rw [if_pos e, if_pos (by omega)]
          · rw [if_neg e, if_neg (by omega)]
        clear hsq hrt hci HLaw
        go_upto_region 12 with (first
          | (go_at_call 16; (refine HD.out.mono ?_); rintro e wa ⟨rfl, h1, h2, h3, h4⟩; have HV3 := Lib.hid h1; have HI3 := Lib.hid (show Blk wa gs 58 (iarr l.sq) from h2.trans HI2.out); have HS3 := Lib.hid (show Blk wa (gs + 1) 59 (sarr l.rt) from h3.trans HS2.out); have HAll := Lib.hid h1.all; have HBx := Lib.hid (h4 gb (by have := HGB.out; omega) hgbw.out.1); clear h1 h2 h3 h4))
        obtain ⟨b1', b3', b4'⟩ := hbox.out wa HV3.out (HBx.out)
        have x0 : wa.cell? ⟨gs, fj, none⟩ = some (.int .i64 (l.sq fj)) := (HI3.out.cell fj).trans (iarr_at _ hfj7)
        have f0 := HI3.out.frozen fj
        have fj0 : (0 : Int) ≤ (fj : Int) := by omega
        go_upto_region 13 with (fail)
        have HI4 : Hid (Blk (wa.setCell ⟨gs, fj, none⟩ (.int .i64 sq)) gs 58 (iarr l2.sq)) := Lib.hid (by rw [← iarr_put l.sq l2.sq sq hfj7 HSq.out]; exact HI3.out.set_ fj _)
        have HS4 : Hid (Blk (wa.setCell ⟨gs, fj, none⟩ (.int .i64 sq)) (gs + 1) 59 (sarr l.rt)) := Lib.hid (HS3.out.far (by omega) _)
        have HV4 : Hid (Vz w (wa.setCell ⟨gs, fj, none⟩ (.int .i64 sq)) g l2 gs (gs + 1)) := Lib.hid (HV3.out.put HCI2.out.slots ((Only.refl _ _).setCell (.inl (.inl rfl)) _))
        have hb5 : Hid ((wa.setCell ⟨gs, fj, none⟩ (.int .i64 sq)).heap[gb]? = wz.heap[gb]?) := Lib.hid ((heap_setCell_other wa ⟨gs, fj, none⟩ gb _ hgbw.out.2.1).trans HBx.out)
        clear x0 f0 b1' b3' b4'
        generalize World.setCell wa _ _ = wb at HI4 HS4 HV4 hb5 ⊢
        obtain ⟨b1', b3', b4'⟩ := hbox.out wb HV4.out hb5.out
        have x0 : wb.cell? ⟨gs + 1, fj, none⟩ = some (.string (l.rt fj)) := (HS4.out.cell fj).trans (sarr_at _ hfj7)
        have f0 := HS4.out.frozen fj
        go_upto_region 14 with (fail)
        have BS : Hid (Blk (wb.setCell ⟨gs + 1, fj, none⟩ (.string d)) (gs + 1) 59 (sarr l2.rt)) := Lib.hid (by rw [← sarr_put l.rt l2.rt d hfj7 HRt.out]; exact HS4.out.set_ fj _)
        have BI : Hid (Blk (wb.setCell ⟨gs + 1, fj, none⟩ (.string d)) gs 58 (iarr l2.sq)) := Lib.hid (HI4.out.far (by omega) _)
        have Ht : Hid (Vz w (wb.setCell ⟨gs + 1, fj, none⟩ (.string d)) g l2 gs (gs + 1)) := Lib.hid (HV4.out.put HCI2.out.slots ((Only.refl _ _).setCell (.inl (.inr rfl)) _))
        clear x0 f0 b1' b3' b4'
        generalize World.setCell wb _ _ = wt at BI BS Ht ⊢
        have HCt := HCI2
        clear H HCI HI HS HD H2 HI2 HS2 b0 b1 b2 b3 b4 b5 BX2 hbz HI3 HS3 HV3 HAll HBx HI4 HS4 HV4 hb5 HSq HRt hbox
        have HSt := Lib.hid Ht.out.stable
        go_upto_region 15 with (first
          | (go_at_call 28; (refine HSt.out.mono ?_); rintro e wu ⟨S, R, L, A3, c3, rfl, hsi, hrow, hb⟩; have HSi := Lib.hid hsi; have HRow := Lib.hid hrow; have hbu := Lib.hid hb; clear hsi hrow hb))
        obtain ⟨hU, hN, hRis⟩ := Vl.stable_law HCt.out HSi.out
        have HU := Lib.hid hU
        have HN := Lib.hid hN
        have HRis := Lib.hid hRis
        have BI2 := Lib.hid (BI.out.below hbu.out BI.out.lt)
        have BS2 := Lib.hid (BS.out.below hbu.out BS.out.lt)
        have Hu := Lib.hid (Ht.out.next hbu.out)
        clear hU hN hRis HSi HSt BI BS Ht hbu
        obtain ⟨m, hm⟩ : ∃ m, Hid (L.length = m) := ⟨_, Lib.hid rfl⟩
        rw [hm.out] at HN ⊢
        go_wp2
        go_loopg [11, 12] 8 (fun gk s11 s12 wr => ∃ k : Nat, gk = 8 - k ∧ k ≤ 7 ∧ s11 = .int .i64 ((manyN l2.sq l2.rt k : Nat) : Int) ∧ s12 = .int .i64 (k : Int) ∧ Hid (Below wu.heap.size wu wr))
        case atStart => exact ⟨0, rfl, Nat.zero_le _, rfl, rfl, Lib.hid (Below.refl _ _)⟩
        case round =>
          obtain ⟨k, rfl, hk, rfl, rfl, hbk⟩ := hrel
          have k0 : (0 : Int) ≤ (k : Int) := by omega
          have hmn := manyN_le l2.sq l2.rt k
          have hms := Lib.hid (manyN_snoc l2.sq l2.rt k)
          obtain ⟨wk, hwk⟩ : ∃ wk, wk = wr := ⟨_, rfl⟩
          subst hwk
          by_cases hk7 : k < 7
          · have hk7I : (k : Int) < 7 := by omega
            generalize manyN l2.sq l2.rt k = mn at hmn hms ⊢
            have hmn0 : (0 : Int) ≤ (mn : Int) := by omega
            have hmn7 : (mn : Int) ≤ 7 := by omega
            go_wp2
            go_loopg [13, 14] 8 (fun gk s13 s14 wr => ∃ j : Nat, gk = 8 - j ∧ j ≤ 7 ∧ s13 = .int .i64 ((sameN l2.sq l2.rt k j : Nat) : Int) ∧ s14 = .int .i64 (j : Int) ∧ Hid (Below wk.heap.size wk wr))
            case atStart => exact ⟨0, rfl, Nat.zero_le _, rfl, rfl, Lib.hid (Below.refl _ _)⟩
            case round =>
              obtain ⟨j, rfl, hj, rfl, rfl, hbj⟩ := hrel
              have j0 : (0 : Int) ≤ (j : Int) := by omega
              have hbw := Lib.hid (below_next hbk.out hbj.out)
              have hsl := sameN_le l2.sq l2.rt k j
              have BI3 := Lib.hid (BI2.out.below hbw.out BI2.out.lt)
              have BS3 := Lib.hid (BS2.out.below hbw.out BS2.out.lt)
              have xk : wr.cell? ⟨gs, k, none⟩ = some (.int .i64 (l2.sq k)) := (BI3.out.cell k).trans (iarr_at _ hk7)
              have yk : wr.cell? ⟨gs + 1, k, none⟩ = some (.string (l2.rt k)) := (BS3.out.cell k).trans (sarr_at _ hk7)
              by_cases hj7 : j < 7
              · have hj7I : (j : Int) < 7 := by omega
                have xj : wr.cell? ⟨gs, j, none⟩ = some (.int .i64 (l2.sq j)) := (BI3.out.cell j).trans (iarr_at _ hj7)
                have yj : wr.cell? ⟨gs + 1, j, none⟩ = some (.string (l2.rt j)) := (BS3.out.cell j).trans (sarr_at _ hj7)
                have hY := Lib.hid (fun h1 h2 h3 => sameN_yes (f := l2.sq) (h := l2.rt) (k := k) (j := j) h1 h2 h3)
                have hNo := Lib.hid (fun h1 => sameN_no (f := l2.sq) (h := l2.rt) (k := k) (j := j) h1)
                generalize sameN l2.sq l2.rt k j = sn at hsl hY hNo ⊢
                generalize hfk : l2.sq k = fk at xk hY hNo
                generalize hgk : l2.rt k = tk at yk hY hNo
                have hsn0 : (0 : Int) ≤ (sn : Int) := by omega
                have hsn7 : (sn : Int) ≤ 7 := by omega
                by_cases hjk : j = k
                · subst hjk
                  rw [hfk] at xj hY hNo
                  rw [hgk] at yj hY hNo
                  clear hfk hgk
                  by_cases p1 : 0 < fk
                  · have E := Lib.hid (hY.out p1 rfl rfl)
                    go_upto_region 23 with (fail)
                    go_quiet (fail)
                    go_wp2
                    go_roundg (8 - (j + 1))
                    case measure => omega
                    case rel => exact ⟨j + 1, rfl, by omega, by rw [E.out]; go_num, by go_num, Lib.hid (below_draw hbj.out _)⟩
                  · have E := Lib.hid (hNo.out (fun h => p1 h.1))
                    have p1B : decide (0 < fk) = false := by simpa using p1
                    go_upto_region 23 with (fail)
                    go_quiet (fail)
                    go_wp2
                    go_roundg (8 - (j + 1))
                    case measure => omega
                    case rel => exact ⟨j + 1, rfl, by omega, by rw [E.out], by go_num, Lib.hid (below_draw hbj.out _)⟩
                · clear hfk hgk
                  generalize l2.sq j = fj at xj hY hNo
                  generalize l2.rt j = tj at yj hY hNo
                  by_cases p1 : 0 < fk
                  · by_cases p2 : fj = fk
                    · by_cases p3 : tj = tk
                      · have E := Lib.hid (hY.out p1 p2 p3)
                        subst p2
                        subst p3
                        go_upto_region 23 with (fail)
                        go_quiet (fail)
                        go_wp2
                        go_roundg (8 - (j + 1))
                        case measure => omega
                        case rel => exact ⟨j + 1, rfl, by omega, by rw [E.out]; go_num, by go_num, Lib.hid (below_draw hbj.out _)⟩
                      · have E := Lib.hid (hNo.out (fun h => p3 h.2.2))
                        have d2 := text_ne p3
                        have d3 := text_apart p3
                        have d4 := text_differ p3
                        subst p2
                        go_upto_region 23 with (fail)
                        go_quiet (fail)
                        go_wp2
                        go_roundg (8 - (j + 1))
                        case measure => omega
                        case rel => exact ⟨j + 1, rfl, by omega, by rw [E.out], by go_num, Lib.hid (below_draw hbj.out _)⟩
                    · have E := Lib.hid (hNo.out (fun h => p2 h.2.1))
                      have d2 : (fj == fk) = false := by simpa using p2
                      go_upto_region 23 with (fail)
                      go_quiet (fail)
                      go_wp2
                      go_roundg (8 - (j + 1))
                      case measure => omega
                      case rel => exact ⟨j + 1, rfl, by omega, by rw [E.out], by go_num, Lib.hid (below_draw hbj.out _)⟩
                  · have E := Lib.hid (hNo.out (fun h => p1 h.1))
                    have p1B : decide (0 < fk) = false := by simpa using p1
                    go_upto_region 23 with (fail)
                    go_quiet (fail)
                    go_wp2
                    go_roundg (8 - (j + 1))
                    case measure => omega
                    case rel => exact ⟨j + 1, rfl, by omega, by rw [E.out], by go_num, Lib.hid (below_draw hbj.out _)⟩
              · obtain rfl : j = 7 := by omega
                by_cases h5 : 5 ≤ sameN l2.sq l2.rt k 7
                · obtain ⟨u1, u2⟩ := HU.out k hk7 (decide_eq_true h5)
                  rw [u1] at xk
                  rw [u2] at yk
                  have E : Hid (manyN l2.sq l2.rt (k + 1) = mn + 1) := Lib.hid (by rw [hms.out, if_pos (show manyB l2.sq l2.rt k = true from decide_eq_true h5)])
                  generalize sameN l2.sq l2.rt k 7 = sn at hsl h5 ⊢
                  have h5I : (5 : Int) ≤ (sn : Int) := by omega
                  clear u1 u2 hj hj7
                  go_wp2
                  go_roundg (8 - (k + 1))
                  case measure => omega
                  case rel => exact ⟨k + 1, rfl, by omega, by rw [E.out]; go_num, by go_num, hbw⟩
                · have E : Hid (manyN l2.sq l2.rt (k + 1) = mn) := Lib.hid (by rw [hms.out, if_neg (by unfold manyB; simpa using h5), Nat.add_zero])
                  generalize sameN l2.sq l2.rt k 7 = sn at hsl h5 ⊢
                  have h5I : ¬ (5 : Int) ≤ (sn : Int) := by omega
                  clear hj hj7
                  go_wp2
                  go_roundg (8 - (k + 1))
                  case measure => omega
                  case rel => exact ⟨k + 1, rfl, by omega, by rw [E.out], by go_num, hbw⟩
          · obtain rfl : k = 7 := by omega
            have Hk := Lib.hid (Hu.out.next hbk.out)
            have BI3 := Lib.hid (BI2.out.below hbk.out BI2.out.lt)
            have BS3 := Lib.hid (BS2.out.below hbk.out BS2.out.lt)
            have HRw := Lib.hid (HRow.out.below hbk.out)
            clear Hu BI2 BS2 HRow hms
            generalize manyN l2.sq l2.rt 7 = mn at hmn HN ⊢
            rcases HN.out with ⟨q1, q2, q3⟩ | ⟨q1, q2, q3⟩
            · subst q1
              subst q2
              have Q3 := Lib.hid q3
              rw [Q3.out]
              clear q3 hk hk7 HN
              go_wp2
              go_loopg [15] 1 (fun gk s15 wr => gk = 1 ∧ s15 = .int .i64 1 ∧ wr = wk)
              case atStart => exact ⟨rfl, rfl, rfl⟩
              case round =>
                obtain ⟨rfl, rfl, rfl⟩ := hrel
                go_wp2
                go_roundg (61 - (i + 1))
                case measure => omega
                case rel => exact ⟨i + 1, l2, rfl, by omega, by go_num, Hk, HCt, BI3, BS3⟩
            · have Q3 := Lib.hid q3
              rw [Q3.out]
              have hL5 : Hid (L.length = 5) := Lib.hid (hm.out.trans Q3.out)
              have qB : ((mn : Int) == 0) = false := by simp; omega
              have qS : (S == 0) = false := by simpa using q2
              clear q1 q2 q3 hk hk7 HN
              go_wp2
              go_loopg [15] 5 (fun gk s15 wr => ∃ u : Nat, gk = 5 - u ∧ u ≤ 4 ∧ s15 = .int .i64 ((u : Int) + 1) ∧ Hid (Below wk.heap.size wk wr))
              case atStart => exact ⟨0, rfl, by omega, rfl, Lib.hid (Below.refl _ _)⟩
              case round =>
                obtain ⟨u, rfl, hu, rfl, hbx⟩ := hrel
                have u0 : (0 : Int) ≤ (u : Int) := by omega
                have u1 : (0 : Int) ≤ (u : Int) + 1 := by omega
                by_cases hu4 : u < 4
                · have hu4I : (u : Int) + 1 < 5 := by omega
                  have hu5I : (u : Int) < 5 := by omega
                  obtain ⟨bb, oo, rfl, hc1⟩ := HRw.out.cells (i := u) (by rw [hL5.out]; omega)
                  obtain ⟨bb2, oo2, e2, hc2⟩ := HRw.out.cells (i := u + 1) (by rw [hL5.out]; omega)
                  cases e2
                  have x1 := (hc1 wr hbx.out).1
                  have x2 := (hc2 wr hbx.out).1
                  have hlt := rising_get HRis.out (i := u) (j := u + 1) (by omega) (by rw [hL5.out]; omega)
                  clear hc1 hc2
                  generalize (L.getD u Sg.none).frm = f1 at x1 hlt
                  generalize (L.getD (u + 1) Sg.none).frm = f2 at x2 hlt
                  have d4 : decide (f2 ≤ f1) = false := by simpa using hlt
                  have k4 : ((u : Int) + 1).toNat = u + 1 := by omega
                  have hw1 : IntKind.i64.wrap ((u : Int) + 1 - 1) = (u : Int) := by rw [IntKind.wrap_i64]; omega
                  have hw2 : IntKind.i64.wrap (u : Int) = (u : Int) := by rw [IntKind.wrap_i64]; omega
                  clear hlt
                  go_upto_region 34 with (fail)
                  go_quiet (fail)
                  clear hw1 hw2 k4 d4
                  go_wp2
                  go_roundg (5 - (u + 1))
                  case measure => omega
                  case rel => exact ⟨u + 1, rfl, by omega, by go_num, Lib.hid (below_draw hbx.out _)⟩
                · obtain rfl : u = 4 := by omega
                  have Hk2 := Lib.hid (Hk.out.next hbx.out)
                  have BI4 := Lib.hid (BI3.out.below hbx.out BI3.out.lt)
                  have BS4 := Lib.hid (BS3.out.below hbx.out BS3.out.lt)
                  clear hu hu4
                  go_wp2
                  go_roundg (61 - (i + 1))
                  case measure => omega
                  case rel => exact ⟨i + 1, l2, rfl, by omega, by go_num, Hk2, HCt, BI4, BS4⟩
      · have hl2' : l2 = l := hl2
        subst hl2'
        have hccB : (cc == 0) = false := by simpa using hc0
        clear hc0 hl2 HLaw hbox
        go_upto_region 14 with (first
          | (go_at_call 16; (refine HD.out.mono ?_); rintro e wt ⟨rfl, h1, h2, h3, -⟩; have Ht := Lib.hid h1; have BI := Lib.hid (show Blk wt gs 58 (iarr l2.sq) from h2.trans HI2.out); have BS := Lib.hid (show Blk wt (gs + 1) 59 (sarr l2.rt) from h3.trans HS2.out); clear h1 h2 h3))
        have HCt := HCI
        clear H HCI HI HS HD H2 HI2 HS2 b0 b1 b2 b3 b4 b5 BX2 hbz hccB
        have HSt := Lib.hid Ht.out.stable
        go_upto_region 15 with (first
          | (go_at_call 28; (refine HSt.out.mono ?_); rintro e wu ⟨S, R, L, A3, c3, rfl, hsi, hrow, hb⟩; have HSi := Lib.hid hsi; have HRow := Lib.hid hrow; have hbu := Lib.hid hb; clear hsi hrow hb))
        obtain ⟨hU, hN, hRis⟩ := Vl.stable_law HCt.out HSi.out
        have HU := Lib.hid hU
        have HN := Lib.hid hN
        have HRis := Lib.hid hRis
        have BI2 := Lib.hid (BI.out.below hbu.out BI.out.lt)
        have BS2 := Lib.hid (BS.out.below hbu.out BS.out.lt)
        have Hu := Lib.hid (Ht.out.next hbu.out)
        clear hU hN hRis HSi HSt BI BS Ht hbu
        obtain ⟨m, hm⟩ : ∃ m, Hid (L.length = m) := ⟨_, Lib.hid rfl⟩
        rw [hm.out] at HN ⊢
        go_wp2
        go_loopg [11, 12] 8 (fun gk s11 s12 wr => ∃ k : Nat, gk = 8 - k ∧ k ≤ 7 ∧ s11 = .int .i64 ((manyN l2.sq l2.rt k : Nat) : Int) ∧ s12 = .int .i64 (k : Int) ∧ Hid (Below wu.heap.size wu wr))
        case atStart => exact ⟨0, rfl, Nat.zero_le _, rfl, rfl, Lib.hid (Below.refl _ _)⟩
        case round =>
          obtain ⟨k, rfl, hk, rfl, rfl, hbk⟩ := hrel
          have k0 : (0 : Int) ≤ (k : Int) := by omega
          have hmn := manyN_le l2.sq l2.rt k
          have hms := Lib.hid (manyN_snoc l2.sq l2.rt k)
          obtain ⟨wk, hwk⟩ : ∃ wk, wk = wr := ⟨_, rfl⟩
          subst hwk
          by_cases hk7 : k < 7
          · have hk7I : (k : Int) < 7 := by omega
            generalize manyN l2.sq l2.rt k = mn at hmn hms ⊢
            have hmn0 : (0 : Int) ≤ (mn : Int) := by omega
            have hmn7 : (mn : Int) ≤ 7 := by omega
            go_wp2
            go_loopg [13, 14] 8 (fun gk s13 s14 wr => ∃ j : Nat, gk = 8 - j ∧ j ≤ 7 ∧ s13 = .int .i64 ((sameN l2.sq l2.rt k j : Nat) : Int) ∧ s14 = .int .i64 (j : Int) ∧ Hid (Below wk.heap.size wk wr))
            case atStart => exact ⟨0, rfl, Nat.zero_le _, rfl, rfl, Lib.hid (Below.refl _ _)⟩
            case round =>
              obtain ⟨j, rfl, hj, rfl, rfl, hbj⟩ := hrel
              have j0 : (0 : Int) ≤ (j : Int) := by omega
              have hbw := Lib.hid (below_next hbk.out hbj.out)
              have hsl := sameN_le l2.sq l2.rt k j
              have BI3 := Lib.hid (BI2.out.below hbw.out BI2.out.lt)
              have BS3 := Lib.hid (BS2.out.below hbw.out BS2.out.lt)
              have xk : wr.cell? ⟨gs, k, none⟩ = some (.int .i64 (l2.sq k)) := (BI3.out.cell k).trans (iarr_at _ hk7)
              have yk : wr.cell? ⟨gs + 1, k, none⟩ = some (.string (l2.rt k)) := (BS3.out.cell k).trans (sarr_at _ hk7)
              by_cases hj7 : j < 7
              · have hj7I : (j : Int) < 7 := by omega
                have xj : wr.cell? ⟨gs, j, none⟩ = some (.int .i64 (l2.sq j)) := (BI3.out.cell j).trans (iarr_at _ hj7)
                have yj : wr.cell? ⟨gs + 1, j, none⟩ = some (.string (l2.rt j)) := (BS3.out.cell j).trans (sarr_at _ hj7)
                have hY := Lib.hid (fun h1 h2 h3 => sameN_yes (f := l2.sq) (h := l2.rt) (k := k) (j := j) h1 h2 h3)
                have hNo := Lib.hid (fun h1 => sameN_no (f := l2.sq) (h := l2.rt) (k := k) (j := j) h1)
                generalize sameN l2.sq l2.rt k j = sn at hsl hY hNo ⊢
                generalize hfk : l2.sq k = fk at xk hY hNo
                generalize hgk : l2.rt k = tk at yk hY hNo
                have hsn0 : (0 : Int) ≤ (sn : Int) := by omega
                have hsn7 : (sn : Int) ≤ 7 := by omega
                by_cases hjk : j = k
                · subst hjk
                  rw [hfk] at xj hY hNo
                  rw [hgk] at yj hY hNo
                  clear hfk hgk
                  by_cases p1 : 0 < fk
                  · have E := Lib.hid (hY.out p1 rfl rfl)
                    go_upto_region 23 with (fail)
                    go_quiet (fail)
                    go_wp2
                    go_roundg (8 - (j + 1))
                    case measure => omega
                    case rel => exact ⟨j + 1, rfl, by omega, by rw [E.out]; go_num, by go_num, Lib.hid (below_draw hbj.out _)⟩
                  · have E := Lib.hid (hNo.out (fun h => p1 h.1))
                    have p1B : decide (0 < fk) = false := by simpa using p1
                    go_upto_region 23 with (fail)
                    go_quiet (fail)
                    go_wp2
                    go_roundg (8 - (j + 1))
                    case measure => omega
                    case rel => exact ⟨j + 1, rfl, by omega, by rw [E.out], by go_num, Lib.hid (below_draw hbj.out _)⟩
                · clear hfk hgk
                  generalize l2.sq j = fj at xj hY hNo
                  generalize l2.rt j = tj at yj hY hNo
                  by_cases p1 : 0 < fk
                  · by_cases p2 : fj = fk
                    · by_cases p3 : tj = tk
                      · have E := Lib.hid (hY.out p1 p2 p3)
                        subst p2
                        subst p3
                        go_upto_region 23 with (fail)
                        go_quiet (fail)
                        go_wp2
                        go_roundg (8 - (j + 1))
                        case measure => omega
                        case rel => exact ⟨j + 1, rfl, by omega, by rw [E.out]; go_num, by go_num, Lib.hid (below_draw hbj.out _)⟩
                      · have E := Lib.hid (hNo.out (fun h => p3 h.2.2))
                        have d2 := text_ne p3
                        have d3 := text_apart p3
                        have d4 := text_differ p3
                        subst p2
                        go_upto_region 23 with (fail)
                        go_quiet (fail)
                        go_wp2
                        go_roundg (8 - (j + 1))
                        case measure => omega
                        case rel => exact ⟨j + 1, rfl, by omega, by rw [E.out], by go_num, Lib.hid (below_draw hbj.out _)⟩
                    · have E := Lib.hid (hNo.out (fun h => p2 h.2.1))
                      have d2 : (fj == fk) = false := by simpa using p2
                      go_upto_region 23 with (fail)
                      go_quiet (fail)
                      go_wp2
                      go_roundg (8 - (j + 1))
                      case measure => omega
                      case rel => exact ⟨j + 1, rfl, by omega, by rw [E.out], by go_num, Lib.hid (below_draw hbj.out _)⟩
                  · have E := Lib.hid (hNo.out (fun h => p1 h.1))
                    have p1B : decide (0 < fk) = false := by simpa using p1
                    go_upto_region 23 with (fail)
                    go_quiet (fail)
                    go_wp2
                    go_roundg (8 - (j + 1))
                    case measure => omega
                    case rel => exact ⟨j + 1, rfl, by omega, by rw [E.out], by go_num, Lib.hid (below_draw hbj.out _)⟩
              · obtain rfl : j = 7 := by omega
                by_cases h5 : 5 ≤ sameN l2.sq l2.rt k 7
                · obtain ⟨u1, u2⟩ := HU.out k hk7 (decide_eq_true h5)
                  rw [u1] at xk
                  rw [u2] at yk
                  have E : Hid (manyN l2.sq l2.rt (k + 1) = mn + 1) := Lib.hid (by rw [hms.out, if_pos (show manyB l2.sq l2.rt k = true from decide_eq_true h5)])
                  generalize sameN l2.sq l2.rt k 7 = sn at hsl h5 ⊢
                  have h5I : (5 : Int) ≤ (sn : Int) := by omega
                  clear u1 u2 hj hj7
                  go_wp2
                  go_roundg (8 - (k + 1))
                  case measure => omega
                  case rel => exact ⟨k + 1, rfl, by omega, by rw [E.out]; go_num, by go_num, hbw⟩
                · have E : Hid (manyN l2.sq l2.rt (k + 1) = mn) := Lib.hid (by rw [hms.out, if_neg (by unfold manyB; simpa using h5), Nat.add_zero])
                  generalize sameN l2.sq l2.rt k 7 = sn at hsl h5 ⊢
                  have h5I : ¬ (5 : Int) ≤ (sn : Int) := by omega
                  clear hj hj7
                  go_wp2
                  go_roundg (8 - (k + 1))
                  case measure => omega
                  case rel => exact ⟨k + 1, rfl, by omega, by rw [E.out], by go_num, hbw⟩
          · obtain rfl : k = 7 := by omega
            have Hk := Lib.hid (Hu.out.next hbk.out)
            have BI3 := Lib.hid (BI2.out.below hbk.out BI2.out.lt)
            have BS3 := Lib.hid (BS2.out.below hbk.out BS2.out.lt)
            have HRw := Lib.hid (HRow.out.below hbk.out)
            clear Hu BI2 BS2 HRow hms
            generalize manyN l2.sq l2.rt 7 = mn at hmn HN ⊢
            rcases HN.out with ⟨q1, q2, q3⟩ | ⟨q1, q2, q3⟩
            · subst q1
              subst q2
              have Q3 := Lib.hid q3
              rw [Q3.out]
              clear q3 hk hk7 HN
              go_wp2
              go_loopg [15] 1 (fun gk s15 wr => gk = 1 ∧ s15 = .int .i64 1 ∧ wr = wk)
              case atStart => exact ⟨rfl, rfl, rfl⟩
              case round =>
                obtain ⟨rfl, rfl, rfl⟩ := hrel
                go_wp2
                go_roundg (61 - (i + 1))
                case measure => omega
                case rel => exact ⟨i + 1, l2, rfl, by omega, by go_num, Hk, HCt, BI3, BS3⟩
            · have Q3 := Lib.hid q3
              rw [Q3.out]
              have hL5 : Hid (L.length = 5) := Lib.hid (hm.out.trans Q3.out)
              have qB : ((mn : Int) == 0) = false := by simp; omega
              have qS : (S == 0) = false := by simpa using q2
              clear q1 q2 q3 hk hk7 HN
              go_wp2
              go_loopg [15] 5 (fun gk s15 wr => ∃ u : Nat, gk = 5 - u ∧ u ≤ 4 ∧ s15 = .int .i64 ((u : Int) + 1) ∧ Hid (Below wk.heap.size wk wr))
              case atStart => exact ⟨0, rfl, by omega, rfl, Lib.hid (Below.refl _ _)⟩
              case round =>
                obtain ⟨u, rfl, hu, rfl, hbx⟩ := hrel
                have u0 : (0 : Int) ≤ (u : Int) := by omega
                have u1 : (0 : Int) ≤ (u : Int) + 1 := by omega
                by_cases hu4 : u < 4
                · have hu4I : (u : Int) + 1 < 5 := by omega
                  have hu5I : (u : Int) < 5 := by omega
                  obtain ⟨bb, oo, rfl, hc1⟩ := HRw.out.cells (i := u) (by rw [hL5.out]; omega)
                  obtain ⟨bb2, oo2, e2, hc2⟩ := HRw.out.cells (i := u + 1) (by rw [hL5.out]; omega)
                  cases e2
                  have x1 := (hc1 wr hbx.out).1
                  have x2 := (hc2 wr hbx.out).1
                  have hlt := rising_get HRis.out (i := u) (j := u + 1) (by omega) (by rw [hL5.out]; omega)
                  clear hc1 hc2
                  generalize (L.getD u Sg.none).frm = f1 at x1 hlt
                  generalize (L.getD (u + 1) Sg.none).frm = f2 at x2 hlt
                  have d4 : decide (f2 ≤ f1) = false := by simpa using hlt
                  have k4 : ((u : Int) + 1).toNat = u + 1 := by omega
                  have hw1 : IntKind.i64.wrap ((u : Int) + 1 - 1) = (u : Int) := by rw [IntKind.wrap_i64]; omega
                  have hw2 : IntKind.i64.wrap (u : Int) = (u : Int) := by rw [IntKind.wrap_i64]; omega
                  clear hlt
                  go_upto_region 34 with (fail)
                  go_quiet (fail)
                  clear hw1 hw2 k4 d4
                  go_wp2
                  go_roundg (5 - (u + 1))
                  case measure => omega
                  case rel => exact ⟨u + 1, rfl, by omega, by go_num, Lib.hid (below_draw hbx.out _)⟩
                · obtain rfl : u = 4 := by omega
                  have Hk2 := Lib.hid (Hk.out.next hbx.out)
                  have BI4 := Lib.hid (BI3.out.below hbx.out BI3.out.lt)
                  have BS4 := Lib.hid (BS3.out.below hbx.out BS3.out.lt)
                  clear hu hu4
                  go_wp2
                  go_roundg (61 - (i + 1))
                  case measure => omega
                  case rel => exact ⟨i + 1, l2, rfl, by omega, by go_num, Hk2, HCt, BI4, BS4⟩
    · have hgo2 : (i < n ∧ ¬ i < 60) ∨ ¬ i < n := by omega
      clear hgo hi
      rcases hgo2 with ⟨hin, hi60⟩ | hin
      · have hi60I : ¬ (i : Int) < 60 := by omega
        have hinI : (i : Int) < (n : Int) := by omega
        go_wp2_with (first
          | (go_at_call 14; (with_reducible refine (HA.out _).mono ?_); rintro e w9 ⟨rfl, ha⟩; have HA8 := Lib.hid ha; clear ha))
        go_ret
        exact ⟨rfl, below_next H.out.all HA8.out⟩
      · go_wp2_with (first
          | (go_at_call 14; (with_reducible refine (HA.out _).mono ?_); rintro e w9 ⟨rfl, ha⟩; have HA8 := Lib.hid ha; clear ha))
        go_ret
        exact ⟨rfl, below_next H.out.all HA8.out⟩
end Go.Proofs.Ytedndjbhgbdpoaa
