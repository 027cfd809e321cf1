/- The walk of VlogViews: behind a higher view no proposal and no vote is there any more, but all that was prepared is kept as it was. -/
import Derived.Test.YtedndjbhgbdpoaaVlE
namespace Go.Proofs.Ytedndjbhgbdpoaa
open Go.RowKit
theorem wf0 : (Lit.int .i64 0).wf = true := by decide
set_option maxHeartbeats 8000000 in
set_option maxRecDepth 100000 in
theorem VlogViews_walk (w : World) (A : Option Addr) (n c : Nat) (Z : Nat → VAct) (hZ : Script w A n Z) (view : Int) (_hs : (Lit.int .i64 view).wf = true) :
    Calls Try.prog 9 #[.slice A n c, .int .i64 view] w fun e w' => e = .returned (.bool true) ∧ Below w.heap.size w w' := by
  have HA := Lib.hid (fun w => awake_calls w)
  have HBg := Lib.hid (begun_calls w A n c Z hZ)
  clear hZ _hs
  generalize (Vl.seven).acts Z (min n 80) = l at HBg
  go_enter Try.func9, Try.ntmps9
  go_upto_region 2 with (first
    | (go_at_call 19; (refine (HBg.out).mono ?_); rintro e w1 ⟨g, rfl, h⟩; have H1 := Lib.hid h; clear h))
  have HLo1 := Lib.hid (fun wx (h : Vw w wx g l) => h.low)
  have HVw := Lib.hid (fun wx (h : Vw w wx g l) => h.view)
  have HKe := Lib.hid (H1.out.kept)
  have hlow := H1.out.ok.low
  obtain ⟨lo, hlo⟩ : ∃ lo, Hid (l.low = lo) := ⟨_, Lib.hid rfl⟩
  obtain ⟨lv, hlv⟩ : ∃ lv, Hid (l.view = lv) := ⟨_, Lib.hid rfl⟩
  rw [hlo.out] at HLo1 hlow
  rw [hlv.out] at HVw
  obtain ⟨hlow0, hlow1⟩ := hlow
  go_upto_region 5 with (first
    | (go_at_call 23; (with_reducible refine (HVw.out _ H1.out).mono ?_); rintro e wv ⟨rfl, rfl⟩)
    | (go_at_call 22; (refine (HKe.out).mono ?_); rintro e w2 ⟨A1, c1, rfl, hk, hb⟩; have HK2 := Lib.hid hk; have hb2 := Lib.hid hb; have H2 := Lib.hid (H1.out.next hb); clear hk hb)
    | (go_at_call 20; (with_reducible refine (HLo1.out _ H2.out).mono ?_); rintro e wl ⟨rfl, rfl⟩))
  have HC := Lib.hid (H2.out.enter_ view)
  have HBad := Lib.hid (fun h => Vl.enter_bad (l := l) (view := view) h)
  have HEq := Lib.hid (fun h1 h2 => Vl.enter_eq (l := l) (view := view) h1 h2)
  rw [hlv.out] at HBad HEq
  obtain ⟨m, hm⟩ : ∃ m, Hid (l.kept.length = m) := ⟨_, Lib.hid rfl⟩
  rw [hm.out] at HK2 ⊢
  by_cases g1 : view ≤ lv
  · have E := Lib.hid (HBad.out (.inl g1))
    unfold TurnedG at HC
    rw [E.out] at HC
    go_wp2_with (first
      | (go_at_call 29; (refine (HC.out).mono ?_); rintro e w6 ⟨rfl, h6, -⟩; have H6 := Lib.hid h6; clear h6)
      | (go_at_call 23; (with_reducible refine (HVw.out _ H6.out).mono ?_); rintro e w7 ⟨rfl, rfl⟩)
      | (go_at_call 14; (with_reducible refine (HA.out _).mono ?_); rintro e w8 ⟨rfl, ha⟩; have HA8 := Lib.hid ha; clear ha))
    go_ret
    exact ⟨rfl, below_next H6.out.all HA8.out⟩
  · by_cases g2 : 1048576 < view
    · have E := Lib.hid (HBad.out (.inr g2))
      unfold TurnedG at HC
      rw [E.out] at HC
      go_wp2_with (first
        | (go_at_call 29; (refine (HC.out).mono ?_); rintro e w6 ⟨rfl, h6, -⟩; have H6 := Lib.hid h6; clear h6)
        | (go_at_call 23; (with_reducible refine (HVw.out _ H6.out).mono ?_); rintro e w7 ⟨rfl, rfl⟩)
        | (go_at_call 14; (with_reducible refine (HA.out _).mono ?_); rintro e w8 ⟨rfl, ha⟩; have HA8 := Lib.hid ha; clear ha))
      go_ret
      exact ⟨rfl, below_next H6.out.all HA8.out⟩
    · have q1 : lv < view := by omega
      have q2 : view ≤ 1048576 := by omega
      have E := Lib.hid (HEq.out q1 q2)
      unfold TurnedG at HC
      rw [E.out] at HC
      have hl2 : Hid ((l.entering view 8).low = lo ∧ (l.entering view 8).view = view ∧ (l.entering view 8).kept = l.kept) := Lib.hid ⟨hlo.out, rfl, Vl.entering_kept l view⟩
      have hP := Lib.hid (fun s => Vl.entering_proposal l view s)
      have hVo := Lib.hid (fun k s f => Vl.entering_voted l view k s f)
      have hPr := Lib.hid (fun s => Vl.entering_prepared H1.out.ok view s)
      have hCo := Lib.hid (fun s => Vl.entering_committed H1.out.ok view s)
      obtain ⟨l2, hl2e⟩ : ∃ l2, Hid (l.entering view 8 = l2) := ⟨_, Lib.hid rfl⟩
      rw [hl2e.out] at HC hl2 hP hVo hPr hCo
      have HLo2 := Lib.hid (fun wx (h : Vw w wx g l2) => h.low)
      have HVw2 := Lib.hid (fun wx (h : Vw w wx g l2) => h.view)
      have HKe2 := Lib.hid (fun wx (h : Vw w wx g l2) => h.kept)
      rw [hl2.out.1] at HLo2
      rw [hl2.out.2.1] at HVw2
      rw [hl2.out.2.2, hm.out] at HKe2
      clear HLo1 HVw HKe HBad HEq E
      go_upto_region 11 with (first
        | (go_at_call 29; (refine (HC.out).mono ?_); rintro e w6 ⟨rfl, h6, ho6⟩; have H6 := Lib.hid h6; have O6 := Lib.hid ho6; clear h6 ho6)
        | (go_at_call 22; (refine (HKe2.out _ H6.out).mono ?_); rintro e w7 ⟨A2, c2, rfl, hk, hb⟩; have HK7 := Lib.hid hk; have hb7 := Lib.hid hb; have H7 := Lib.hid (H6.out.next hb); clear hk hb)
        | (go_at_call 23; (with_reducible refine (HVw2.out _ H7.out).mono ?_); rintro e wv ⟨rfl, rfl⟩)
        | (go_at_call 20; (with_reducible refine (HLo2.out _ H7.out).mono ?_); rintro e wl ⟨rfl, rfl⟩))
      have K7 := Lib.hid ((HK2.out.only O6.out fun b hb => by rw [hb]; exact H1.out.lt).below hb7.out)
      have hm8 : m ≤ 8 := by rw [← hm.out]; exact Vl.keptN_le l 8
      go_wp2
      go_loopg [11] 9 (fun gk s11 wr => ∃ i : Nat, gk = 9 - i ∧ i ≤ m ∧ s11 = .int .i64 (i : Int) ∧ Hid (Below w7.heap.size w7 wr))
      case atStart => exact ⟨0, rfl, Nat.zero_le _, rfl, Lib.hid (Below.refl _ _)⟩
      case round =>
        obtain ⟨i, rfl, hi, rfl, hb⟩ := hrel
        have i0 : (0 : Int) ≤ (i : Int) := by omega
        by_cases hlt : i < m
        · have hltI : (i : Int) < (m : Int) := by omega
          have hil : i < l.kept.length := by rw [hm.out]; exact hlt
          have hil2 : i < l2.kept.length := by rw [hl2.out.2.2, hm.out]; exact hlt
          obtain ⟨b2, o2, bl2, ol2, cl2, rfl, -, -, y, ry⟩ := (K7.out.below hb.out).cells (i := i) hil
          obtain ⟨b1, o1, bl1, ol1, cl1, rfl, -, -, x, rx⟩ := (HK7.out.below hb.out).cells (i := i) (by rw [hm.out]; exact hlt)
          have hq9 : Hid ((l.kept.getD i Kb.none).list.length ≤ 1000) := Lib.hid (by
            have := kept_short H1.out.ok hil
            omega)
          generalize l.kept.getD i Kb.none = kb at x y rx ry hq9
          obtain ⟨kd, kw, kq, kg, kt, kl⟩ := kb
          simp only at x y rx ry hq9
          obtain ⟨q, hq⟩ : ∃ q, Hid (kl.length = q) := ⟨_, Lib.hid rfl⟩
          have HSm := Lib.hid (fun wx (hh : Below wr.heap.size wr wx) => same_calls (w := wx) (A := some ⟨bl1, ol1, none⟩) (B := some ⟨bl2, ol2, none⟩) (c1 := cl1) (c2 := cl2) (n := kl.length) (L := kl) (Row.below rx hh) (Row.below ry hh) rfl hq9.out kd kw kq kg kt)
          rw [hq.out] at HSm x y
          have HX := Lib.hid x
          have HY := Lib.hid y
          have hbb : Hid (b1 < wr.heap.size ∧ b2 < wr.heap.size) := Lib.hid ⟨block_lt HX.out.1, block_lt HY.out.1⟩
          have HSS : Hid (∀ wx, Below wr.heap.size wr wx → (wx.cell? ⟨b1, o1 + i * 8, none⟩ = some (.int .i64 kd) ∧ wx.cell? ⟨b1, o1 + i * 8 + 1, none⟩ = some (.int .i64 kw) ∧ wx.cell? ⟨b1, o1 + i * 8 + 2, none⟩ = some (.int .i64 kq) ∧ wx.cell? ⟨b1, o1 + i * 8 + 3, none⟩ = some (.int .i64 0) ∧ wx.cell? ⟨b1, o1 + i * 8 + 4, none⟩ = some (.int .i64 0) ∧ wx.cell? ⟨b1, o1 + i * 8 + 5, none⟩ = some (.string kg) ∧ wx.cell? ⟨b1, o1 + i * 8 + 6, none⟩ = some (.string kt) ∧ wx.cell? ⟨b1, o1 + i * 8 + 7, none⟩ = some (.slice (some ⟨bl1, ol1, none⟩) q cl1)) ∧ (wx.cell? ⟨b2, o2 + i * 8, none⟩ = some (.int .i64 kd) ∧ wx.cell? ⟨b2, o2 + i * 8 + 1, none⟩ = some (.int .i64 kw) ∧ wx.cell? ⟨b2, o2 + i * 8 + 2, none⟩ = some (.int .i64 kq) ∧ wx.cell? ⟨b2, o2 + i * 8 + 3, none⟩ = some (.int .i64 0) ∧ wx.cell? ⟨b2, o2 + i * 8 + 4, none⟩ = some (.int .i64 0) ∧ wx.cell? ⟨b2, o2 + i * 8 + 5, none⟩ = some (.string kg) ∧ wx.cell? ⟨b2, o2 + i * 8 + 6, none⟩ = some (.string kt) ∧ wx.cell? ⟨b2, o2 + i * 8 + 7, none⟩ = some (.slice (some ⟨bl2, ol2, none⟩) q cl2))) := Lib.hid fun wx hh => by
            obtain ⟨x0, x1, x2, x3, x4, x5, x6, x7⟩ := HX.out
            obtain ⟨y0, y1, y2, y3, y4, y5, y6, y7⟩ := HY.out
            have e1 := fun (o : Nat) => below_cell hh (b := b1) (o := o) hbb.out.1
            have e2 := fun (o : Nat) => below_cell hh (b := b2) (o := o) hbb.out.2
            exact ⟨⟨(e1 _).trans x0, (e1 _).trans x1, (e1 _).trans x2, (e1 _).trans x3, (e1 _).trans x4, (e1 _).trans x5, (e1 _).trans x6, (e1 _).trans x7⟩, (e2 _).trans y0, (e2 _).trans y1, (e2 _).trans y2, (e2 _).trans y3, (e2 _).trans y4, (e2 _).trans y5, (e2 _).trans y6, (e2 _).trans y7⟩
          clear x y rx ry hil hil2 hq9
          go_upto_region 14 with (fail)
          go_region_held3 (fun w' => (w'.cell? ⟨b1, o1 + i * 8, none⟩ = some (.int .i64 kd) ∧ w'.cell? ⟨b1, o1 + i * 8 + 1, none⟩ = some (.int .i64 kw) ∧ w'.cell? ⟨b1, o1 + i * 8 + 2, none⟩ = some (.int .i64 kq) ∧ w'.cell? ⟨b1, o1 + i * 8 + 3, none⟩ = some (.int .i64 0) ∧ w'.cell? ⟨b1, o1 + i * 8 + 4, none⟩ = some (.int .i64 0) ∧ w'.cell? ⟨b1, o1 + i * 8 + 5, none⟩ = some (.string kg) ∧ w'.cell? ⟨b1, o1 + i * 8 + 6, none⟩ = some (.string kt) ∧ w'.cell? ⟨b1, o1 + i * 8 + 7, none⟩ = some (.slice (some ⟨bl1, ol1, none⟩) q cl1)) ∧ (w'.cell? ⟨b2, o2 + i * 8, none⟩ = some (.int .i64 kd) ∧ w'.cell? ⟨b2, o2 + i * 8 + 1, none⟩ = some (.int .i64 kw) ∧ w'.cell? ⟨b2, o2 + i * 8 + 2, none⟩ = some (.int .i64 kq) ∧ w'.cell? ⟨b2, o2 + i * 8 + 3, none⟩ = some (.int .i64 0) ∧ w'.cell? ⟨b2, o2 + i * 8 + 4, none⟩ = some (.int .i64 0) ∧ w'.cell? ⟨b2, o2 + i * 8 + 5, none⟩ = some (.string kg) ∧ w'.cell? ⟨b2, o2 + i * 8 + 6, none⟩ = some (.string kt) ∧ w'.cell? ⟨b2, o2 + i * 8 + 7, none⟩ = some (.slice (some ⟨bl2, ol2, none⟩) q cl2)))
            (first | exact HSS.out _ (Below.refl _ _).drew | exact HSS.out _ (below_next (Below.refl _ _).drew hsm) | exact HSS.out _ (below_next (Below.refl _ _) hsm))
            (first
              | (go_at_call 30; (with_reducible refine (HSm.out _ (Below.refl _ _).drew).mono ?_); rintro e wm ⟨rfl, hsm⟩))
          go_wp2
          go_roundg (9 - (i + 1))
          case measure => omega
          case rel => exact ⟨i + 1, rfl, by omega, by go_num, Lib.hid (below_next hb.out (below_next (Below.refl _ _).drew hsm))⟩
        · obtain rfl : i = m := by omega
          obtain ⟨w8, hw8⟩ : ∃ w8, w8 = wr := ⟨_, rfl⟩
          subst hw8
          have H8 := Lib.hid (H7.out.next hb.out)
          clear HK7 K7 hlt hi hb
          go_wp2
          go_loopg [12] 11 (fun gk s12 wx => ∃ i : Nat, gk = 11 - i ∧ i ≤ 10 ∧ s12 = .int .i64 (lo + (i : Int)) ∧ Hid (Below w8.heap.size w8 wx))
          case atStart => exact ⟨0, rfl, Nat.zero_le _, by simp, Lib.hid (Below.refl _ _)⟩
          case round =>
            obtain ⟨i, rfl, hi, rfl, hb⟩ := hrel
            have i0 : (0 : Int) ≤ (i : Int) := by omega
            by_cases hlt : i < 10
            · have hltI : (i : Int) < 10 := by omega
              have g9 : lo + (i : Int) ≤ lo + 9 := by omega
              have HPx := Lib.hid (fun wx (hh : Below w8.heap.size w8 wx) => (H8.out.next hh).proposal (lo + (i : Int)))
              have HVx := Lib.hid (fun wx (hh : Below w8.heap.size w8 wx) => (H8.out.next hh).voted 3 (.inl rfl) (lo + (i : Int)) 0 wf0)
              have HPr := Lib.hid (fun wx (hh : Below w8.heap.size w8 wx) => (H8.out.next hh).prepared (lo + (i : Int)))
              have HCo := Lib.hid (fun wx (hh : Below w8.heap.size w8 wx) => (H8.out.next hh).committed (lo + (i : Int)))
              unfold TellsVote at HVx
              rw [hP.out] at HPx
              rw [hVo.out] at HVx
              rw [hPr.out] at HPr
              rw [hCo.out] at HCo
              simp only [Option.isSome_none] at HVx
              generalize (l2.proposal (lo + (i : Int))).1 = p1 at HPx
              generalize (l2.proposal (lo + (i : Int))).2.1 = p2 at HPx
              generalize (l2.votedSg 3 (lo + (i : Int)) 0) = sg at HVx
              go_upto_region 21 with (first
                | (go_at_call 25; (with_reducible refine (HPx.out _ hb.out).mono ?_); rintro e w3 ⟨rfl, hh⟩; have H3 := Lib.hid (below_next hb.out hh); clear hh)
                | (go_at_call 26; (with_reducible refine (HVx.out _ H3.out).mono ?_); rintro e w5 ⟨rfl, hh⟩; have H5 := Lib.hid (below_next H3.out hh); clear hh))
              have H7b : Hid (Below w8.heap.size w8 (w5.alloc (.cells #[.int .i64 sg.frm, .string sg.body, .string sg.sig] 48))) := Lib.hid (H5.out.alloc H5.out.size _)
              go_wp2_with (first
                | (go_at_call 18; (with_reducible refine (HPr.out _ H7b.out).mono ?_); rintro e wp ⟨rfl, hh⟩; have Hp := Lib.hid (below_next H7b.out hh); clear hh)
                | (go_at_call 21; (with_reducible refine (HCo.out _ Hp.out).mono ?_); rintro e wq ⟨rfl, hh⟩; have Hq := Lib.hid (below_next Hp.out hh); clear hh))
              go_roundg (11 - (i + 1))
              case measure => omega
              case rel => exact ⟨i + 1, rfl, by omega, by go_num, Hq⟩
            · obtain rfl : i = 10 := by omega
              clear hlt hi
              have H9 := Lib.hid (H8.out.next hb.out)
              go_wp2_with (first
                | (go_at_call 14; (with_reducible refine (HA.out _).mono ?_); rintro e w9 ⟨rfl, ha⟩; have HA8 := Lib.hid ha; clear ha))
              go_ret
              exact ⟨rfl, below_next H9.out.all HA8.out⟩
end Go.Proofs.Ytedndjbhgbdpoaa
