/- The walk of ClockBytes: an auction comes back from its bytes, and goes on alike. -/
import Derived.Test.YtccmafmeblojpaaApart
import Derived.Test.YtccmafmeblojpaaNums
import Derived.Test.YtccmafmeblojpaaOf
import Derived.Deep.CutRange
namespace Go.Proofs.Ytccmafmeblojpaa
open Go.RowKit
set_option linter.unusedVariables false
set_option linter.unusedSimpArgs false
theorem four_ok (s : Int) : (Auc.four s).Ok := by
  have h := arnd_lt s (below := 300) (by omega)
  refine ⟨?_, ?_, ?_, ?_, ?_, .inl rfl, ?_, fun p hp => ?_⟩
  · show 1 ≤ 1 + (arnd s 300 : Int) ∧ 1 + (arnd s 300 : Int) ≤ 1048576
    omega
  · show (0 : Int) ≤ 10 ∧ (10 : Int) ≤ 1099511627776
    omega
  · show (1 : Int) ≤ 3 ∧ (3 : Int) ≤ 1099511627776
    omega
  · show (1 : Int) ≤ 1
    omega
  · show (10 : Int) + (1 - 1) * 3 ≤ 1099511627776
    omega
  · show 1 ≤ (List.replicate 4 ((0 : Int), (0 : Int))).length ∧ (List.replicate 4 ((0 : Int), (0 : Int))).length ≤ 16
    simp
  · rw [List.eq_of_mem_replicate hp]
    show (0 : Int) ≤ 0 ∧ (0 : Int) ≤ 1048576 ∧ (0 : Int) ≤ 0 ∧ (0 : Int) ≤ 1048576
    omega
theorem four_right (s : Int) : (Auc.four s).Right := Auc.Right.fresh (four_ok s)
theorem Got.rowB {w w' : World} {v : Value} {L : List Int} (h : Got w w' v L) : ∃ A c, v = .slice A L.length c ∧ IRow w' A L := by
  rcases h with ⟨rfl, rfl⟩ | ⟨gs, rfl, _, hb⟩
  · exact ⟨none, 0, rfl, .inl rfl⟩
  · refine ⟨_, _, rfl, ?_⟩
    refine .inr ⟨gs, 0, rfl, hb.lt, fun j hj => ?_⟩
    rw [Nat.zero_add, hb.cell, List.getElem?_toArray, icells_get _ hj]
theorem DW.start {w w2 w3 : World} {g gl h hl : Nat} {a b : Auc} (hx : Aw w w2 g gl a) (hy : Aw w2 w3 h hl b) : DW w w3 g gl a h hl b := by
  have h1 := hx.at_.head.lt
  have h2 := hx.at_.list.lt
  have h3 := hy.head
  have h4 := hy.list
  have h5 := hx.all.size
  exact ⟨hx.below hy.all, ⟨hy.at_, hy.fair, by omega, by omega, below_next hx.all hy.all⟩, by omega, by omega, by omega, by omega⟩
set_option maxHeartbeats 16000000 in
set_option maxRecDepth 100000 in
theorem ClockBytes_walk (w : World) (s : Int) (_hs : (Lit.int .i64 s).wf = true) (A : Option Addr) (n c : Nat) (Z : Nat → Int) (hZ : Script w A n Z) (B : Option Addr) (m d : Nat) (Y : Nat → Int) (hY : Script w B m Y) :
    Calls Try.prog 10 #[.int .i64 s, .slice A n c, .slice B m d] w fun e w' => e = .returned (.bool true) ∧ Below w.heap.size w w' := by
  have HY := Lib.hid hY
  have HB1 := Lib.hid (begun_calls w s A n c Z hZ)
  obtain ⟨a, ha⟩ : ∃ a, Hid ((Auc.four s).acts Z (min n 100) = a) := ⟨_, Lib.hid rfl⟩
  have hR : Hid a.Right := Lib.hid (by rw [← ha.out]; exact (four_right s).acts Z _)
  rw [ha.out] at HB1
  have KO := Lib.hid (fun wx => of_calls wx a hR.out)
  clear hZ hY _hs
  go_enter Try.func10, Try.ntmps10
  go_upto_region 5 with (first
    | (go_at_call 25; (with_reducible refine (HB1.out).mono ?_); rintro e w1 hB; obtain ⟨g, gl, rfl, h1⟩ := hB; have H0 := Lib.hid h1; clear h1)
    | (go_at_call 28; (with_reducible refine (bytes_calls _ g gl a H0.out.at_).mono ?_); rintro e w2 ⟨rfl, hh⟩; have H1 := Lib.hid (H0.out.below hh); clear hh)
    | (go_at_call 34; (with_reducible refine (KO.out _).mono ?_); rintro e w3 hO; obtain ⟨h, hl, rfl, h2⟩ := hO; have H2 := Lib.hid (DW.start H1.out h2); clear h2))
  clear HB1 KO
  go_wp2_with (first
    | (go_at_call 28; first
      | ((with_reducible refine (bytes_calls _ g gl a H3.out.x.at_).mono ?_); rintro e w5 ⟨rfl, hh⟩; have H4 := Lib.hid (H3.out.keep hh); clear hh)
      | ((with_reducible refine (bytes_calls _ h hl a H2.out.y.at_).mono ?_); rintro e w4 ⟨rfl, hh⟩; have H3 := Lib.hid (H2.out.keep hh); clear hh)))
  go_loopg [10] 21 (fun gk s10 wr => ∃ (i : Nat) (b : Auc), gk = 21 - i ∧ i ≤ min m 20 ∧ s10 = .int .i64 (i : Int) ∧ Hid (DW w wr g gl b h hl b))
  case atStart => exact ⟨0, a, rfl, Nat.zero_le _, rfl, H4⟩
  case round =>
    clear H0 H1 H2 H3 H4 ha hR
    obtain ⟨i, b, rfl, hi, rfl, H⟩ := hrel
    have i0 : (0 : Int) ≤ (i : Int) := by omega
    by_cases hgo : i < m ∧ i < 20
    · obtain ⟨hin, hi20⟩ := hgo
      have i20 : (i : Int) < 20 := by omega
      have hinI : (i : Int) < (m : Int) := by omega
      obtain ⟨pb, po, rfl⟩ := HY.out.at_ hin
      have HC := Lib.hid (fun wx (hb : Below w.heap.size w wx) => HY.out.cells hin hb)
      generalize Y (i * 3) = y0 at HC
      generalize Y (i * 3 + 1) = y1 at HC
      generalize Y (i * 3 + 2) = y2 at HC
      obtain ⟨z0, z1, z2⟩ := HC.out _ H.out.x.all
      have hk3 := arnd_lt y0 (below := 3) (by omega)
      have HK := Lib.hid (fun w => around3 y0 w)
      obtain ⟨k, hk⟩ : ∃ k, Hid (arnd y0 3 = k) := ⟨_, Lib.hid rfl⟩
      rw [hk.out] at HK hk3
      have hi' := Lib.hid hi
      clear hi
      by_cases h2 : k = 2
      · subst h2
        obtain ⟨b', hb'⟩ : ∃ b', Hid (b.next.1 = b') := ⟨_, Lib.hid rfl⟩
        have KX := Lib.hid (H.out.nextx)
        have KY := Lib.hid (fun wx (hd : DW w wx g gl b.next.1 h hl b) => hd.nexty)
        generalize b.next.2.1 = r1 at KX KY
        generalize b.next.2.2 = r2 at KX KY
        rw [hb'.out] at KX KY
        go_wp2_with (first
          | (go_at_call 17; (with_reducible refine (HK.out _).mono ?_); rintro e w1 ⟨rfl, rfl⟩)
          | (go_at_call 23; first
            | ((with_reducible refine (KY.out _ H5.out).mono ?_); rintro e w7 ⟨rfl, hh⟩; have H6 := Lib.hid hh; clear hh)
            | ((with_reducible refine (KX.out).mono ?_); rintro e w6 ⟨rfl, hh⟩; have H5 := Lib.hid hh; clear hh)))
        go_roundg (21 - (i + 1))
        case measure => omega
        case rel => exact ⟨i + 1, b', rfl, by have := hi'.out; omega, by go_num, H6⟩
      · have h2I : ¬ (k : Int) = 2 := by omega
        have h2B : (k == 2) = false := by simpa using h2
        have h2BI : ((k : Int) == 2) = false := by simpa using h2I
        obtain ⟨b', hb'⟩ : ∃ b', Hid ((b.bid y1 y2).1 = b') := ⟨_, Lib.hid rfl⟩
        have KX := Lib.hid (fun wx c (hd : DW w wx g gl b h hl c) => hd.bidx y1 y2)
        have KY := Lib.hid (fun wx c (hd : DW w wx g gl c h hl b) => hd.bidy y1 y2)
        generalize (b.bid y1 y2).2 = r2 at KX KY
        rw [hb'.out] at KX KY
        clear h2
        go_upto_region 15 with (first
          | (go_at_call 17; (with_reducible refine (HK.out _).mono ?_); rintro e w1 ⟨rfl, rfl⟩))
        clear z0 z1 z2
        have Hd : Hid (DW w wr.drew g gl b h hl b) := Lib.hid (H.out.keep (below_draw (Below.refl _ _) 1))
        go_region_held3 (fun wx => wx.cell? ⟨pb, po + i * 3 + 1, none⟩ = some (.int .i64 y1) ∧ wx.cell? ⟨pb, po + i * 3 + 2, none⟩ = some (.int .i64 y2))
          (first | (with_reducible exact (HC.out _ Hd.out.x.all).2) | (with_reducible exact (HC.out _ H5.out.x.all).2) | (with_reducible exact (HC.out _ H6.out.x.all).2) | fail)
          (first
            | (go_at_call 19; first
              | ((with_reducible refine (KY.out _ _ H5.out).mono ?_); rintro e w7 ⟨rfl, hh⟩; have H6 := Lib.hid hh; clear hh)
              | ((with_reducible refine (KX.out _ _ H5.out).mono ?_); rintro e w7 ⟨rfl, hh⟩; have H6 := Lib.hid hh; clear hh)
              | ((with_reducible refine (KX.out _ _ Hd.out).mono ?_); rintro e w6 ⟨rfl, hh⟩; have H5 := Lib.hid hh; clear hh)
              | ((with_reducible refine (KY.out _ _ Hd.out).mono ?_); rintro e w6 ⟨rfl, hh⟩; have H5 := Lib.hid hh; clear hh)))
        all_goals
          go_wp2
          go_roundg (21 - (i + 1))
          case measure => omega
          case rel => exact ⟨i + 1, b', rfl, by have := hi'.out; omega, by go_num, H6⟩
    · have KS := Lib.hid (fun wx g gl (hA : AtA wx g gl b) => sale_calls wx g gl b hA H.out.x.fair)
      have hsl := b.sale_short
      have h16 := H.out.x.at_.ok.len.2
      obtain ⟨sl, hsl2⟩ : ∃ sl, Hid (b.sale = sl) := ⟨_, Lib.hid rfl⟩
      rw [hsl2.out] at KS hsl
      obtain ⟨s1, sL, s3⟩ := sl
      simp only at KS hsl
      obtain ⟨sk, hsk⟩ : ∃ sk, Hid (sL.length = sk) := ⟨_, Lib.hid rfl⟩
      rw [hsk.out] at hsl
      have hsk16 : sk ≤ 16 := by omega
      by_cases hin : i < m
      · have hi60I : ¬ (i : Int) < 20 := by omega
        have hinI : (i : Int) < (m : Int) := by omega
        clear hgo hi
        go_wp2_with (first
          | (go_at_call 27; first
            | ((with_reducible refine (KS.out _ h hl H5.out.y.at_).mono ?_); rintro e w7 ⟨v, rfl, hg, hh⟩; obtain ⟨RB, rc, rfl, hr⟩ := hg.rowB; have HRb := Lib.hid hr; have HRa2 := Lib.hid (HRa.out.below hh); have H6 := Lib.hid (H5.out.keep hh); clear hg hr hh; rw [hsk.out])
            | ((with_reducible refine (KS.out _ g gl H.out.x.at_).mono ?_); rintro e w6 ⟨v, rfl, hg, hh⟩; obtain ⟨GA, gc, rfl, hr⟩ := hg.rowB; have HRa := Lib.hid hr; have H5 := Lib.hid (H.out.keep hh); clear hg hr hh; rw [hsk.out]))
          | (go_at_call 15; (with_reducible refine (numbers_same _ GA RB gc rc sk sL hsk.out (by omega) HRa2.out HRb.out).mono ?_); rintro e w8 ⟨rfl, nd, hw⟩; have H7 : Hid (DW w w8 g gl b h hl b) := Lib.hid (by rw [hw]; exact H6.out.keep (below_draw (Below.refl _ _) nd)); clear hw)
          | (go_at_call 28; first
            | ((with_reducible refine (bytes_calls _ h hl b H8.out.y.at_).mono ?_); rintro e w10 ⟨rfl, hh⟩; have H9 := Lib.hid (H8.out.keep hh); clear hh)
            | ((with_reducible refine (bytes_calls _ g gl b H7.out.x.at_).mono ?_); rintro e w9 ⟨rfl, hh⟩; have H8 := Lib.hid (H7.out.keep hh); clear hh))
          | (go_at_call 14; (with_reducible refine (awake_calls _).mono ?_); rintro e w11 ⟨rfl, hh⟩; have H10 := Lib.hid (H9.out.keep hh); clear hh))
        go_ret
        exact ⟨rfl, H10.out.x.all⟩
      · clear hgo hi
        go_wp2_with (first
          | (go_at_call 27; first
            | ((with_reducible refine (KS.out _ h hl H5.out.y.at_).mono ?_); rintro e w7 ⟨v, rfl, hg, hh⟩; obtain ⟨RB, rc, rfl, hr⟩ := hg.rowB; have HRb := Lib.hid hr; have HRa2 := Lib.hid (HRa.out.below hh); have H6 := Lib.hid (H5.out.keep hh); clear hg hr hh; rw [hsk.out])
            | ((with_reducible refine (KS.out _ g gl H.out.x.at_).mono ?_); rintro e w6 ⟨v, rfl, hg, hh⟩; obtain ⟨GA, gc, rfl, hr⟩ := hg.rowB; have HRa := Lib.hid hr; have H5 := Lib.hid (H.out.keep hh); clear hg hr hh; rw [hsk.out]))
          | (go_at_call 15; (with_reducible refine (numbers_same _ GA RB gc rc sk sL hsk.out (by omega) HRa2.out HRb.out).mono ?_); rintro e w8 ⟨rfl, nd, hw⟩; have H7 : Hid (DW w w8 g gl b h hl b) := Lib.hid (by rw [hw]; exact H6.out.keep (below_draw (Below.refl _ _) nd)); clear hw)
          | (go_at_call 28; first
            | ((with_reducible refine (bytes_calls _ h hl b H8.out.y.at_).mono ?_); rintro e w10 ⟨rfl, hh⟩; have H9 := Lib.hid (H8.out.keep hh); clear hh)
            | ((with_reducible refine (bytes_calls _ g gl b H7.out.x.at_).mono ?_); rintro e w9 ⟨rfl, hh⟩; have H8 := Lib.hid (H7.out.keep hh); clear hh))
          | (go_at_call 14; (with_reducible refine (awake_calls _).mono ?_); rintro e w11 ⟨rfl, hh⟩; have H10 := Lib.hid (H9.out.keep hh); clear hh))
        go_ret
        exact ⟨rfl, H10.out.x.all⟩
end Go.Proofs.Ytccmafmeblojpaa
