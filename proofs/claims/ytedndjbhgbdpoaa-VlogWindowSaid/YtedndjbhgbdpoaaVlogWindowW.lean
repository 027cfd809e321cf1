/- The walk of VlogWindow: what lies outside the window or the view, or is nobody's, is refused and changes nothing. -/
import Derived.Test.YtedndjbhgbdpoaaVlN
namespace Go.Proofs.Ytedndjbhgbdpoaa
open Go.RowKit
set_option maxHeartbeats 8000000 in
set_option maxRecDepth 100000 in
theorem VlogWindow_walk (w : World) (A : Option Addr) (n c : Nat) (Z : Nat → VAct) (hZ : Script w A n Z) (a : VAct) :
    Calls Try.prog 6 #[.slice A n c, .agg (acells a).toArray] w fun e w' => e = .returned (.bool true) ∧ Below w.heap.size w w' := by
  have HA := Lib.hid (fun w => awake_calls w)
  have HBox : Hid (Below w.heap.size w (w.alloc (.cells (acells a).toArray 32))) := Lib.hid ((Below.refl _ _).alloc (Nat.le_refl _) _)
  have B0 : Hid (Blk (w.alloc (.cells (acells a).toArray 32)) w.heap.size 32 (acells a).toArray) := Lib.hid (Blk.new _ _ _)
  have HZ : Hid (Script (w.alloc (.cells (acells a).toArray 32)) A n Z) := Lib.hid (Row.below hZ HBox.out)
  have HBg := Lib.hid (begun_calls (w.alloc (.cells (acells a).toArray 32)) A n c Z HZ.out)
  clear hZ
  have hn7 : Hid (((Vl.seven).acts Z (min n 80)).n = 7) := Lib.hid (Vl.seven_n Z _)
  generalize (Vl.seven).acts Z (min n 80) = l at HBg hn7
  have HO1 := Lib.hid (fun hk ho => Vl.act_out1 (l := l) (a := a) hk ho)
  have HO2 := Lib.hid (fun hk => Vl.act_out2 (l := l) (a := a) hn7.out hk)
  have HD := Lib.hid (fun w0 wx g (h : Vw w0 wx g l) => h.done a)
  have hk6 := arnd_lt a.kind (below := 6) (by omega)
  obtain ⟨kd, fr, vw, sq, d, t⟩ := a
  simp only at HO1 HO2 hk6
  unfold acells at HBg B0 HBox HZ HD ⊢
  have HK := Lib.hid (fun w => around6 kd w)
  obtain ⟨kq, hkq⟩ : ∃ kq : Int, (arnd kd 6 : Int) = kq := ⟨_, rfl⟩
  rw [hkq] at HK
  have hkc : kq = 0 ∨ kq = 1 ∨ kq = 2 ∨ kq = 3 ∨ kq = 4 ∨ kq = 5 := by omega
  have HKQ := Lib.hid hkq
  have HKC := Lib.hid hkc
  clear hkq hk6 hkc
  go_enter Try.func6, Try.ntmps6
  go_upto_region 4 with (first
    | (go_at_call 19; (refine (HBg.out).mono ?_); rintro e w1 ⟨g, rfl, h⟩; have H1 := Lib.hid h; clear h))
  obtain ⟨b0, hb0⟩ : ∃ b0, w.heap.size = b0 := ⟨_, rfl⟩
  rw [hb0] at B0 ⊢
  have HBS := Lib.hid hb0
  clear hb0
  have B1 := Lib.hid (B0.out.below H1.out.all B0.out.lt)
  have x0 : w1.cell? ⟨b0, 0, none⟩ = some (.int .i64 kd) := B1.out.cell 0
  have x2 : w1.cell? ⟨b0, 2, none⟩ = some (.int .i64 vw) := B1.out.cell 2
  have x3 : w1.cell? ⟨b0, 3, none⟩ = some (.int .i64 sq) := B1.out.cell 3
  have HV := Lib.hid (fun wx (h : Vw (w.alloc (.cells #[.int .i64 kd, .int .i64 fr, .int .i64 vw, .int .i64 sq, .string d, .string t] 32)) wx g l) => h.view)
  have HL := Lib.hid (fun wx (h : Vw (w.alloc (.cells #[.int .i64 kd, .int .i64 fr, .int .i64 vw, .int .i64 sq, .string d, .string t] 32)) wx g l) => h.low)
  have HKe := Lib.hid (fun wx (h : Vw (w.alloc (.cells #[.int .i64 kd, .int .i64 fr, .int .i64 vw, .int .i64 sq, .string d, .string t] 32)) wx g l) => h.kept)
  have hol : Hid (l.outB vw sq = decide (vw ≠ l.view ∨ sq ≤ l.low ∨ l.low + 8 < sq)) := Lib.hid rfl
  have hlow := H1.out.ok.low
  obtain ⟨lv, hlv⟩ : ∃ lv, Hid (l.view = lv) := ⟨_, Lib.hid rfl⟩
  obtain ⟨lo, hlo⟩ : ∃ lo, Hid (l.low = lo) := ⟨_, Lib.hid rfl⟩
  rw [hlv.out, hlo.out] at hol
  rw [hlv.out] at HV
  rw [hlo.out] at HL hlow
  obtain ⟨hlow0, hlow1⟩ := hlow
  have hw8 : IntKind.i64.wrap (lo + 8) = lo + 8 := by rw [IntKind.wrap_i64]; omega
  go_upto_region 5 with (first
    | (go_at_call 12; (with_reducible refine (HK.out _).mono ?_); rintro e w2 ⟨rfl, rfl⟩))
  go_cut [7] from 39 (fun s7 wc => s7 = .bool (l.outB vw sq) ∧ ∃ nd, wc = w1.drewN nd)
  case first =>
    clear hw8
    by_cases g1 : vw = lv
    · subst g1
      by_cases g2 : sq ≤ lo
      · have E : Hid (l.outB vw sq = true) := Lib.hid (by rw [hol.out]; exact decide_eq_true (.inr (.inl g2)))
        go_quiet (first
          | (go_at_call 23; (with_reducible refine (HV.out _ (H1.out.drewN _)).mono ?_); rintro e w' ⟨rfl, rfl⟩; exact ⟨rfl, _, rfl⟩)
          | (go_at_call 20; (with_reducible refine (HL.out _ (H1.out.drewN _)).mono ?_); rintro e w' ⟨rfl, rfl⟩; exact ⟨rfl, _, rfl⟩))
        go_wp2_with fail
        go_meet
        exact ⟨by rw [E.out], _, rfl⟩
      · have hw8 : IntKind.i64.wrap (lo + 8) = lo + 8 := by rw [IntKind.wrap_i64]; omega
        by_cases g3 : lo + 8 < sq
        · have E : Hid (l.outB vw sq = true) := Lib.hid (by rw [hol.out]; exact decide_eq_true (.inr (.inr g3)))
          have g2b : decide (sq ≤ lo) = false := by simpa using g2
          go_quiet (first
          | (go_at_call 23; (with_reducible refine (HV.out _ (H1.out.drewN _)).mono ?_); rintro e w' ⟨rfl, rfl⟩; exact ⟨rfl, _, rfl⟩)
          | (go_at_call 20; (with_reducible refine (HL.out _ (H1.out.drewN _)).mono ?_); rintro e w' ⟨rfl, rfl⟩; exact ⟨rfl, _, rfl⟩))
          go_wp2_with fail
          go_meet
          exact ⟨by rw [E.out], _, rfl⟩
        · have E : Hid (l.outB vw sq = false) := Lib.hid (by rw [hol.out]; exact decide_eq_false (by rintro (h | h | h); exact h rfl; exact g2 h; exact g3 h))
          have g2b : decide (sq ≤ lo) = false := by simpa using g2
          have g3b : decide (lo + 8 < sq) = false := by simpa using g3
          go_quiet (first
          | (go_at_call 23; (with_reducible refine (HV.out _ (H1.out.drewN _)).mono ?_); rintro e w' ⟨rfl, rfl⟩; exact ⟨rfl, _, rfl⟩)
          | (go_at_call 20; (with_reducible refine (HL.out _ (H1.out.drewN _)).mono ?_); rintro e w' ⟨rfl, rfl⟩; exact ⟨rfl, _, rfl⟩))
          go_wp2_with fail
          go_meet
          exact ⟨by rw [E.out], _, rfl⟩
    · have E : Hid (l.outB vw sq = true) := Lib.hid (by rw [hol.out]; exact decide_eq_true (.inl g1))
      have g1b : (vw != lv) = true := by simpa using g1
      go_quiet (first
          | (go_at_call 23; (with_reducible refine (HV.out _ (H1.out.drewN _)).mono ?_); rintro e w' ⟨rfl, rfl⟩; exact ⟨rfl, _, rfl⟩)
          | (go_at_call 20; (with_reducible refine (HL.out _ (H1.out.drewN _)).mono ?_); rintro e w' ⟨rfl, rfl⟩; exact ⟨rfl, _, rfl⟩))
      go_wp2_with fail
      go_meet
      exact ⟨by rw [E.out], _, rfl⟩
  case rest =>
    obtain ⟨rfl, nd, hwc⟩ := hcut
    have HBW : Hid (Below w.heap.size w wc) := Lib.hid (by rw [hwc]; exact below_draw (below_next HBox.out H1.out.all) nd)
    have H2 := Lib.hid (H1.out.drewN nd)
    rw [← hwc] at H2
    clear hwc x0 x2 x3 hw8 hol B1 H1 HV HL HK
    obtain ⟨o, ho⟩ : ∃ o, l.outB vw sq = o := ⟨_, rfl⟩
    rw [ho] at HO1 HO2 ⊢
    clear ho
    obtain ⟨nb, hnb⟩ : ∃ nb, Hid (decide (fr < 0 ∨ 6 < fr) = nb) := ⟨_, Lib.hid rfl⟩
    have x1 : wc.cell? ⟨b0, 1, none⟩ = some (.int .i64 fr) := (B0.out.below H2.out.all B0.out.lt).cell 1
    go_upto_region 6 with (fail)
    go_cut [8] from 47 (fun s8 wd => s8 = .bool nb ∧ wc = wd)
    case first =>
      by_cases g1 : fr < 0
      · have E : Hid (nb = true) := Lib.hid (by rw [← hnb.out]; exact decide_eq_true (.inl g1))
        go_wp2_with fail
        go_meet
        exact ⟨by rw [E.out], rfl⟩
      · by_cases g2 : 6 < fr
        · have E : Hid (nb = true) := Lib.hid (by rw [← hnb.out]; exact decide_eq_true (.inr g2))
          go_wp2_with fail
          go_meet
          exact ⟨by rw [E.out], rfl⟩
        · have E : Hid (nb = false) := Lib.hid (by rw [← hnb.out]; exact decide_eq_false (by rintro (h | h); exact g1 h; exact g2 h))
          go_wp2_with fail
          go_meet
          exact ⟨by rw [E.out], rfl⟩
    case rest =>
      obtain ⟨rfl, rfl⟩ := hcut
      clear x1
      rcases HKC.out with e | e | e | e | e | e
      · subst e
        go_wp2_with (first
          | (go_at_call 14; (with_reducible refine (HA.out _).mono ?_); rintro e w6 ⟨rfl, ha⟩; have HA6 := Lib.hid ha; clear ha))
        go_ret
        exact ⟨rfl, below_next HBW.out HA6.out⟩
      · subst e
        have hk1 : arnd kd 6 = 1 := by have := HKQ.out; omega
        cases o with
        | false =>
          go_wp2_with (first
            | (go_at_call 14; (with_reducible refine (HA.out _).mono ?_); rintro e w6 ⟨rfl, ha⟩; have HA6 := Lib.hid ha; clear ha))
          go_ret
          exact ⟨rfl, below_next HBW.out HA6.out⟩
        | true =>
          have E0 := Lib.hid (HO1.out hk1 rfl)
          clear hk1
          by_cases hd : d = noText
          · have E : Hid (l.act ⟨kd, fr, vw, sq, d, t⟩ = (l, 1)) := Lib.hid (by rw [E0.out, if_pos hd])
            clear E0
            have HDD : Hid (∀ wx, Vw (w.alloc (.cells #[.int .i64 kd, .int .i64 fr, .int .i64 vw, .int .i64 sq, .string d, .string t] 32)) wx g l → Calls Try.prog 16 #[.pointer (some ⟨g, 0, none⟩), .agg #[.int .i64 kd, .int .i64 fr, .int .i64 vw, .int .i64 sq, .string d, .string t]] wx fun e w' => e = .returned (.int .i64 1) ∧ Vw (w.alloc (.cells #[.int .i64 kd, .int .i64 fr, .int .i64 vw, .int .i64 sq, .string d, .string t] 32)) w' g l) := Lib.hid fun wx h => by
              have := HD.out _ wx g h
              unfold TurnedTo at this
              rw [E.out] at this
              exact this
            have hd1 : d.toList = [] := by subst hd; simp [noText, ByteArray.toList_eq]
            have hd2 : (d.toList == []) = true := by rw [hd1]; rfl
            clear hd
            clear HD HO1 HO2
            go_upto_region 10 with (first
              | (go_at_call 22; (refine (HKe.out _ H2.out).mono ?_); rintro e w3 ⟨A1, c1, rfl, -, hb⟩; have H3 := Lib.hid (H2.out.next hb); clear hb))
            have x0 : w3.cell? ⟨b0, 0, none⟩ = some (.int .i64 kd) := (B0.out.below H3.out.all B0.out.lt).cell 0
            have x1 : w3.cell? ⟨b0, 1, none⟩ = some (.int .i64 fr) := (B0.out.below H3.out.all B0.out.lt).cell 1
            have x2 : w3.cell? ⟨b0, 2, none⟩ = some (.int .i64 vw) := (B0.out.below H3.out.all B0.out.lt).cell 2
            have x3 : w3.cell? ⟨b0, 3, none⟩ = some (.int .i64 sq) := (B0.out.below H3.out.all B0.out.lt).cell 3
            have x4 : w3.cell? ⟨b0, 4, none⟩ = some (.string d) := (B0.out.below H3.out.all B0.out.lt).cell 4
            have x5 : w3.cell? ⟨b0, 5, none⟩ = some (.string t) := (B0.out.below H3.out.all B0.out.lt).cell 5
            go_wp2_with (first
              | (go_at_call 16; (with_reducible refine (HDD.out _ H3.out).mono ?_); rintro e w4 ⟨rfl, h⟩; have H4 := Lib.hid h; clear h; have z4 : w4.cell? ⟨b0, 4, none⟩ = some (.string d) := (B0.out.below H4.out.all B0.out.lt).cell 4)
              | (go_at_call 22; (refine (HKe.out _ H4.out).mono ?_); rintro e w5 ⟨A2, c2, rfl, -, hb⟩; have H5 := Lib.hid (H4.out.next hb); clear hb)
              | (go_at_call 14; (with_reducible refine (HA.out _).mono ?_); rintro e w6 ⟨rfl, ha⟩; have HA6 := Lib.hid ha; clear ha))
            go_ret
            exact ⟨rfl, below_next (below_next HBox.out H5.out.all) HA6.out⟩
          · have E : Hid (l.act ⟨kd, fr, vw, sq, d, t⟩ = (l, 100)) := Lib.hid (by rw [E0.out, if_neg hd])
            clear E0
            have HDD : Hid (∀ wx, Vw (w.alloc (.cells #[.int .i64 kd, .int .i64 fr, .int .i64 vw, .int .i64 sq, .string d, .string t] 32)) wx g l → Calls Try.prog 16 #[.pointer (some ⟨g, 0, none⟩), .agg #[.int .i64 kd, .int .i64 fr, .int .i64 vw, .int .i64 sq, .string d, .string t]] wx fun e w' => e = .returned (.int .i64 100) ∧ Vw (w.alloc (.cells #[.int .i64 kd, .int .i64 fr, .int .i64 vw, .int .i64 sq, .string d, .string t] 32)) w' g l) := Lib.hid fun wx h => by
              have := HD.out _ wx g h
              unfold TurnedTo at this
              rw [E.out] at this
              exact this
            obtain ⟨t1, t2, t3⟩ := text_none hd
            clear hd
            clear HD HO1 HO2
            go_upto_region 10 with (first
              | (go_at_call 22; (refine (HKe.out _ H2.out).mono ?_); rintro e w3 ⟨A1, c1, rfl, -, hb⟩; have H3 := Lib.hid (H2.out.next hb); clear hb))
            have x0 : w3.cell? ⟨b0, 0, none⟩ = some (.int .i64 kd) := (B0.out.below H3.out.all B0.out.lt).cell 0
            have x1 : w3.cell? ⟨b0, 1, none⟩ = some (.int .i64 fr) := (B0.out.below H3.out.all B0.out.lt).cell 1
            have x2 : w3.cell? ⟨b0, 2, none⟩ = some (.int .i64 vw) := (B0.out.below H3.out.all B0.out.lt).cell 2
            have x3 : w3.cell? ⟨b0, 3, none⟩ = some (.int .i64 sq) := (B0.out.below H3.out.all B0.out.lt).cell 3
            have x4 : w3.cell? ⟨b0, 4, none⟩ = some (.string d) := (B0.out.below H3.out.all B0.out.lt).cell 4
            have x5 : w3.cell? ⟨b0, 5, none⟩ = some (.string t) := (B0.out.below H3.out.all B0.out.lt).cell 5
            go_wp2_with (first
              | (go_at_call 16; (with_reducible refine (HDD.out _ H3.out).mono ?_); rintro e w4 ⟨rfl, h⟩; have H4 := Lib.hid h; clear h; have z4 : w4.cell? ⟨b0, 4, none⟩ = some (.string d) := (B0.out.below H4.out.all B0.out.lt).cell 4)
              | (go_at_call 22; (refine (HKe.out _ H4.out).mono ?_); rintro e w5 ⟨A2, c2, rfl, -, hb⟩; have H5 := Lib.hid (H4.out.next hb); clear hb)
              | (go_at_call 14; (with_reducible refine (HA.out _).mono ?_); rintro e w6 ⟨rfl, ha⟩; have HA6 := Lib.hid ha; clear ha))
            go_ret
            exact ⟨rfl, below_next (below_next HBox.out H5.out.all) HA6.out⟩
      · subst e
        have hk1 : arnd kd 6 = 2 ∨ arnd kd 6 = 3 := by have := HKQ.out; omega
        have E0 := Lib.hid (HO2.out hk1)
        clear hk1
        cases nb with
        | true =>
          have E : Hid (l.act ⟨kd, fr, vw, sq, d, t⟩ = (l, 1)) := Lib.hid (E0.out.1 (of_decide_eq_true hnb.out))
          clear E0 hnb
          cases o with
          | false =>
            have HDD : Hid (∀ wx, Vw (w.alloc (.cells #[.int .i64 kd, .int .i64 fr, .int .i64 vw, .int .i64 sq, .string d, .string t] 32)) wx g l → Calls Try.prog 16 #[.pointer (some ⟨g, 0, none⟩), .agg #[.int .i64 kd, .int .i64 fr, .int .i64 vw, .int .i64 sq, .string d, .string t]] wx fun e w' => e = .returned (.int .i64 1) ∧ Vw (w.alloc (.cells #[.int .i64 kd, .int .i64 fr, .int .i64 vw, .int .i64 sq, .string d, .string t] 32)) w' g l) := Lib.hid fun wx h => by
              have := HD.out _ wx g h
              unfold TurnedTo at this
              rw [E.out] at this
              exact this
            clear HD HO1 HO2
            go_upto_region 10 with (first
              | (go_at_call 22; (refine (HKe.out _ H2.out).mono ?_); rintro e w3 ⟨A1, c1, rfl, -, hb⟩; have H3 := Lib.hid (H2.out.next hb); clear hb))
            have x0 : w3.cell? ⟨b0, 0, none⟩ = some (.int .i64 kd) := (B0.out.below H3.out.all B0.out.lt).cell 0
            have x1 : w3.cell? ⟨b0, 1, none⟩ = some (.int .i64 fr) := (B0.out.below H3.out.all B0.out.lt).cell 1
            have x2 : w3.cell? ⟨b0, 2, none⟩ = some (.int .i64 vw) := (B0.out.below H3.out.all B0.out.lt).cell 2
            have x3 : w3.cell? ⟨b0, 3, none⟩ = some (.int .i64 sq) := (B0.out.below H3.out.all B0.out.lt).cell 3
            have x4 : w3.cell? ⟨b0, 4, none⟩ = some (.string d) := (B0.out.below H3.out.all B0.out.lt).cell 4
            have x5 : w3.cell? ⟨b0, 5, none⟩ = some (.string t) := (B0.out.below H3.out.all B0.out.lt).cell 5
            go_wp2_with (first
              | (go_at_call 16; (with_reducible refine (HDD.out _ H3.out).mono ?_); rintro e w4 ⟨rfl, h⟩; have H4 := Lib.hid h; clear h; have z4 : w4.cell? ⟨b0, 4, none⟩ = some (.string d) := (B0.out.below H4.out.all B0.out.lt).cell 4)
              | (go_at_call 22; (refine (HKe.out _ H4.out).mono ?_); rintro e w5 ⟨A2, c2, rfl, -, hb⟩; have H5 := Lib.hid (H4.out.next hb); clear hb)
              | (go_at_call 14; (with_reducible refine (HA.out _).mono ?_); rintro e w6 ⟨rfl, ha⟩; have HA6 := Lib.hid ha; clear ha))
            go_ret
            exact ⟨rfl, below_next (below_next HBox.out H5.out.all) HA6.out⟩
          | true =>
            have HDD : Hid (∀ wx, Vw (w.alloc (.cells #[.int .i64 kd, .int .i64 fr, .int .i64 vw, .int .i64 sq, .string d, .string t] 32)) wx g l → Calls Try.prog 16 #[.pointer (some ⟨g, 0, none⟩), .agg #[.int .i64 kd, .int .i64 fr, .int .i64 vw, .int .i64 sq, .string d, .string t]] wx fun e w' => e = .returned (.int .i64 1) ∧ Vw (w.alloc (.cells #[.int .i64 kd, .int .i64 fr, .int .i64 vw, .int .i64 sq, .string d, .string t] 32)) w' g l) := Lib.hid fun wx h => by
              have := HD.out _ wx g h
              unfold TurnedTo at this
              rw [E.out] at this
              exact this
            clear HD HO1 HO2
            go_upto_region 10 with (first
              | (go_at_call 22; (refine (HKe.out _ H2.out).mono ?_); rintro e w3 ⟨A1, c1, rfl, -, hb⟩; have H3 := Lib.hid (H2.out.next hb); clear hb))
            have x0 : w3.cell? ⟨b0, 0, none⟩ = some (.int .i64 kd) := (B0.out.below H3.out.all B0.out.lt).cell 0
            have x1 : w3.cell? ⟨b0, 1, none⟩ = some (.int .i64 fr) := (B0.out.below H3.out.all B0.out.lt).cell 1
            have x2 : w3.cell? ⟨b0, 2, none⟩ = some (.int .i64 vw) := (B0.out.below H3.out.all B0.out.lt).cell 2
            have x3 : w3.cell? ⟨b0, 3, none⟩ = some (.int .i64 sq) := (B0.out.below H3.out.all B0.out.lt).cell 3
            have x4 : w3.cell? ⟨b0, 4, none⟩ = some (.string d) := (B0.out.below H3.out.all B0.out.lt).cell 4
            have x5 : w3.cell? ⟨b0, 5, none⟩ = some (.string t) := (B0.out.below H3.out.all B0.out.lt).cell 5
            go_wp2_with (first
              | (go_at_call 16; (with_reducible refine (HDD.out _ H3.out).mono ?_); rintro e w4 ⟨rfl, h⟩; have H4 := Lib.hid h; clear h; have z4 : w4.cell? ⟨b0, 4, none⟩ = some (.string d) := (B0.out.below H4.out.all B0.out.lt).cell 4)
              | (go_at_call 22; (refine (HKe.out _ H4.out).mono ?_); rintro e w5 ⟨A2, c2, rfl, -, hb⟩; have H5 := Lib.hid (H4.out.next hb); clear hb)
              | (go_at_call 14; (with_reducible refine (HA.out _).mono ?_); rintro e w6 ⟨rfl, ha⟩; have HA6 := Lib.hid ha; clear ha))
            go_ret
            exact ⟨rfl, below_next (below_next HBox.out H5.out.all) HA6.out⟩
        | false =>
          cases o with
          | false =>
            go_wp2_with (first
              | (go_at_call 14; (with_reducible refine (HA.out _).mono ?_); rintro e w6 ⟨rfl, ha⟩; have HA6 := Lib.hid ha; clear ha))
            go_ret
            exact ⟨rfl, below_next HBW.out HA6.out⟩
          | true =>
            have E : Hid (l.act ⟨kd, fr, vw, sq, d, t⟩ = (l, 100)) := Lib.hid (E0.out.2 (of_decide_eq_false hnb.out) rfl)
            clear E0 hnb
            have HDD : Hid (∀ wx, Vw (w.alloc (.cells #[.int .i64 kd, .int .i64 fr, .int .i64 vw, .int .i64 sq, .string d, .string t] 32)) wx g l → Calls Try.prog 16 #[.pointer (some ⟨g, 0, none⟩), .agg #[.int .i64 kd, .int .i64 fr, .int .i64 vw, .int .i64 sq, .string d, .string t]] wx fun e w' => e = .returned (.int .i64 100) ∧ Vw (w.alloc (.cells #[.int .i64 kd, .int .i64 fr, .int .i64 vw, .int .i64 sq, .string d, .string t] 32)) w' g l) := Lib.hid fun wx h => by
              have := HD.out _ wx g h
              unfold TurnedTo at this
              rw [E.out] at this
              exact this
            clear HD HO1 HO2
            go_upto_region 10 with (first
              | (go_at_call 22; (refine (HKe.out _ H2.out).mono ?_); rintro e w3 ⟨A1, c1, rfl, -, hb⟩; have H3 := Lib.hid (H2.out.next hb); clear hb))
            have x0 : w3.cell? ⟨b0, 0, none⟩ = some (.int .i64 kd) := (B0.out.below H3.out.all B0.out.lt).cell 0
            have x1 : w3.cell? ⟨b0, 1, none⟩ = some (.int .i64 fr) := (B0.out.below H3.out.all B0.out.lt).cell 1
            have x2 : w3.cell? ⟨b0, 2, none⟩ = some (.int .i64 vw) := (B0.out.below H3.out.all B0.out.lt).cell 2
            have x3 : w3.cell? ⟨b0, 3, none⟩ = some (.int .i64 sq) := (B0.out.below H3.out.all B0.out.lt).cell 3
            have x4 : w3.cell? ⟨b0, 4, none⟩ = some (.string d) := (B0.out.below H3.out.all B0.out.lt).cell 4
            have x5 : w3.cell? ⟨b0, 5, none⟩ = some (.string t) := (B0.out.below H3.out.all B0.out.lt).cell 5
            go_wp2_with (first
              | (go_at_call 16; (with_reducible refine (HDD.out _ H3.out).mono ?_); rintro e w4 ⟨rfl, h⟩; have H4 := Lib.hid h; clear h; have z4 : w4.cell? ⟨b0, 4, none⟩ = some (.string d) := (B0.out.below H4.out.all B0.out.lt).cell 4)
              | (go_at_call 22; (refine (HKe.out _ H4.out).mono ?_); rintro e w5 ⟨A2, c2, rfl, -, hb⟩; have H5 := Lib.hid (H4.out.next hb); clear hb)
              | (go_at_call 14; (with_reducible refine (HA.out _).mono ?_); rintro e w6 ⟨rfl, ha⟩; have HA6 := Lib.hid ha; clear ha))
            go_ret
            exact ⟨rfl, below_next (below_next HBox.out H5.out.all) HA6.out⟩
      · subst e
        have hk1 : arnd kd 6 = 2 ∨ arnd kd 6 = 3 := by have := HKQ.out; omega
        have E0 := Lib.hid (HO2.out hk1)
        clear hk1
        cases nb with
        | true =>
          have E : Hid (l.act ⟨kd, fr, vw, sq, d, t⟩ = (l, 1)) := Lib.hid (E0.out.1 (of_decide_eq_true hnb.out))
          clear E0 hnb
          cases o with
          | false =>
            have HDD : Hid (∀ wx, Vw (w.alloc (.cells #[.int .i64 kd, .int .i64 fr, .int .i64 vw, .int .i64 sq, .string d, .string t] 32)) wx g l → Calls Try.prog 16 #[.pointer (some ⟨g, 0, none⟩), .agg #[.int .i64 kd, .int .i64 fr, .int .i64 vw, .int .i64 sq, .string d, .string t]] wx fun e w' => e = .returned (.int .i64 1) ∧ Vw (w.alloc (.cells #[.int .i64 kd, .int .i64 fr, .int .i64 vw, .int .i64 sq, .string d, .string t] 32)) w' g l) := Lib.hid fun wx h => by
              have := HD.out _ wx g h
              unfold TurnedTo at this
              rw [E.out] at this
              exact this
            clear HD HO1 HO2
            go_upto_region 10 with (first
              | (go_at_call 22; (refine (HKe.out _ H2.out).mono ?_); rintro e w3 ⟨A1, c1, rfl, -, hb⟩; have H3 := Lib.hid (H2.out.next hb); clear hb))
            have x0 : w3.cell? ⟨b0, 0, none⟩ = some (.int .i64 kd) := (B0.out.below H3.out.all B0.out.lt).cell 0
            have x1 : w3.cell? ⟨b0, 1, none⟩ = some (.int .i64 fr) := (B0.out.below H3.out.all B0.out.lt).cell 1
            have x2 : w3.cell? ⟨b0, 2, none⟩ = some (.int .i64 vw) := (B0.out.below H3.out.all B0.out.lt).cell 2
            have x3 : w3.cell? ⟨b0, 3, none⟩ = some (.int .i64 sq) := (B0.out.below H3.out.all B0.out.lt).cell 3
            have x4 : w3.cell? ⟨b0, 4, none⟩ = some (.string d) := (B0.out.below H3.out.all B0.out.lt).cell 4
            have x5 : w3.cell? ⟨b0, 5, none⟩ = some (.string t) := (B0.out.below H3.out.all B0.out.lt).cell 5
            go_wp2_with (first
              | (go_at_call 16; (with_reducible refine (HDD.out _ H3.out).mono ?_); rintro e w4 ⟨rfl, h⟩; have H4 := Lib.hid h; clear h; have z4 : w4.cell? ⟨b0, 4, none⟩ = some (.string d) := (B0.out.below H4.out.all B0.out.lt).cell 4)
              | (go_at_call 22; (refine (HKe.out _ H4.out).mono ?_); rintro e w5 ⟨A2, c2, rfl, -, hb⟩; have H5 := Lib.hid (H4.out.next hb); clear hb)
              | (go_at_call 14; (with_reducible refine (HA.out _).mono ?_); rintro e w6 ⟨rfl, ha⟩; have HA6 := Lib.hid ha; clear ha))
            go_ret
            exact ⟨rfl, below_next (below_next HBox.out H5.out.all) HA6.out⟩
          | true =>
            have HDD : Hid (∀ wx, Vw (w.alloc (.cells #[.int .i64 kd, .int .i64 fr, .int .i64 vw, .int .i64 sq, .string d, .string t] 32)) wx g l → Calls Try.prog 16 #[.pointer (some ⟨g, 0, none⟩), .agg #[.int .i64 kd, .int .i64 fr, .int .i64 vw, .int .i64 sq, .string d, .string t]] wx fun e w' => e = .returned (.int .i64 1) ∧ Vw (w.alloc (.cells #[.int .i64 kd, .int .i64 fr, .int .i64 vw, .int .i64 sq, .string d, .string t] 32)) w' g l) := Lib.hid fun wx h => by
              have := HD.out _ wx g h
              unfold TurnedTo at this
              rw [E.out] at this
              exact this
            clear HD HO1 HO2
            go_upto_region 10 with (first
              | (go_at_call 22; (refine (HKe.out _ H2.out).mono ?_); rintro e w3 ⟨A1, c1, rfl, -, hb⟩; have H3 := Lib.hid (H2.out.next hb); clear hb))
            have x0 : w3.cell? ⟨b0, 0, none⟩ = some (.int .i64 kd) := (B0.out.below H3.out.all B0.out.lt).cell 0
            have x1 : w3.cell? ⟨b0, 1, none⟩ = some (.int .i64 fr) := (B0.out.below H3.out.all B0.out.lt).cell 1
            have x2 : w3.cell? ⟨b0, 2, none⟩ = some (.int .i64 vw) := (B0.out.below H3.out.all B0.out.lt).cell 2
            have x3 : w3.cell? ⟨b0, 3, none⟩ = some (.int .i64 sq) := (B0.out.below H3.out.all B0.out.lt).cell 3
            have x4 : w3.cell? ⟨b0, 4, none⟩ = some (.string d) := (B0.out.below H3.out.all B0.out.lt).cell 4
            have x5 : w3.cell? ⟨b0, 5, none⟩ = some (.string t) := (B0.out.below H3.out.all B0.out.lt).cell 5
            go_wp2_with (first
              | (go_at_call 16; (with_reducible refine (HDD.out _ H3.out).mono ?_); rintro e w4 ⟨rfl, h⟩; have H4 := Lib.hid h; clear h; have z4 : w4.cell? ⟨b0, 4, none⟩ = some (.string d) := (B0.out.below H4.out.all B0.out.lt).cell 4)
              | (go_at_call 22; (refine (HKe.out _ H4.out).mono ?_); rintro e w5 ⟨A2, c2, rfl, -, hb⟩; have H5 := Lib.hid (H4.out.next hb); clear hb)
              | (go_at_call 14; (with_reducible refine (HA.out _).mono ?_); rintro e w6 ⟨rfl, ha⟩; have HA6 := Lib.hid ha; clear ha))
            go_ret
            exact ⟨rfl, below_next (below_next HBox.out H5.out.all) HA6.out⟩
        | false =>
          cases o with
          | false =>
            go_wp2_with (first
              | (go_at_call 14; (with_reducible refine (HA.out _).mono ?_); rintro e w6 ⟨rfl, ha⟩; have HA6 := Lib.hid ha; clear ha))
            go_ret
            exact ⟨rfl, below_next HBW.out HA6.out⟩
          | true =>
            have E : Hid (l.act ⟨kd, fr, vw, sq, d, t⟩ = (l, 100)) := Lib.hid (E0.out.2 (of_decide_eq_false hnb.out) rfl)
            clear E0 hnb
            have HDD : Hid (∀ wx, Vw (w.alloc (.cells #[.int .i64 kd, .int .i64 fr, .int .i64 vw, .int .i64 sq, .string d, .string t] 32)) wx g l → Calls Try.prog 16 #[.pointer (some ⟨g, 0, none⟩), .agg #[.int .i64 kd, .int .i64 fr, .int .i64 vw, .int .i64 sq, .string d, .string t]] wx fun e w' => e = .returned (.int .i64 100) ∧ Vw (w.alloc (.cells #[.int .i64 kd, .int .i64 fr, .int .i64 vw, .int .i64 sq, .string d, .string t] 32)) w' g l) := Lib.hid fun wx h => by
              have := HD.out _ wx g h
              unfold TurnedTo at this
              rw [E.out] at this
              exact this
            clear HD HO1 HO2
            go_upto_region 10 with (first
              | (go_at_call 22; (refine (HKe.out _ H2.out).mono ?_); rintro e w3 ⟨A1, c1, rfl, -, hb⟩; have H3 := Lib.hid (H2.out.next hb); clear hb))
            have x0 : w3.cell? ⟨b0, 0, none⟩ = some (.int .i64 kd) := (B0.out.below H3.out.all B0.out.lt).cell 0
            have x1 : w3.cell? ⟨b0, 1, none⟩ = some (.int .i64 fr) := (B0.out.below H3.out.all B0.out.lt).cell 1
            have x2 : w3.cell? ⟨b0, 2, none⟩ = some (.int .i64 vw) := (B0.out.below H3.out.all B0.out.lt).cell 2
            have x3 : w3.cell? ⟨b0, 3, none⟩ = some (.int .i64 sq) := (B0.out.below H3.out.all B0.out.lt).cell 3
            have x4 : w3.cell? ⟨b0, 4, none⟩ = some (.string d) := (B0.out.below H3.out.all B0.out.lt).cell 4
            have x5 : w3.cell? ⟨b0, 5, none⟩ = some (.string t) := (B0.out.below H3.out.all B0.out.lt).cell 5
            go_wp2_with (first
              | (go_at_call 16; (with_reducible refine (HDD.out _ H3.out).mono ?_); rintro e w4 ⟨rfl, h⟩; have H4 := Lib.hid h; clear h; have z4 : w4.cell? ⟨b0, 4, none⟩ = some (.string d) := (B0.out.below H4.out.all B0.out.lt).cell 4)
              | (go_at_call 22; (refine (HKe.out _ H4.out).mono ?_); rintro e w5 ⟨A2, c2, rfl, -, hb⟩; have H5 := Lib.hid (H4.out.next hb); clear hb)
              | (go_at_call 14; (with_reducible refine (HA.out _).mono ?_); rintro e w6 ⟨rfl, ha⟩; have HA6 := Lib.hid ha; clear ha))
            go_ret
            exact ⟨rfl, below_next (below_next HBox.out H5.out.all) HA6.out⟩
      · subst e
        go_wp2_with (first
          | (go_at_call 14; (with_reducible refine (HA.out _).mono ?_); rintro e w6 ⟨rfl, ha⟩; have HA6 := Lib.hid ha; clear ha))
        go_ret
        exact ⟨rfl, below_next HBW.out HA6.out⟩
      · subst e
        go_wp2_with (first
          | (go_at_call 14; (with_reducible refine (HA.out _).mono ?_); rintro e w6 ⟨rfl, ha⟩; have HA6 := Lib.hid ha; clear ha))
        go_ret
        exact ⟨rfl, below_next HBW.out HA6.out⟩
end Go.Proofs.Ytedndjbhgbdpoaa
