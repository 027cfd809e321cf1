/- The walk of CallFirst: no order is filled while one of its side that is better, or as good and came first, has anything left. -/
import Derived.Test.YtilbhnloelgpdaaSideT
namespace Go.Proofs.Ytilbhnloelgpdaa
open Go.RowKit
set_option linter.unusedVariables false
set_option linter.unusedSimpArgs false
theorem Bk.first_gone {b : Bk} (h : b.Ok) {f : Fil} {x y : Ord} (hf : f ∈ b.clear.2.2) (hx : x ∈ b.l) (hy : y ∈ b.l) (e : y.id = f.id) (hs : y.buys = x.buys) (hb : fst x.buys x y = true) : (b.clear.1.get x.id).2 = false := by
  have h1 : Bk.got b.clear.2.2 x.id = x.amount := Bk.first_full h hx hy hf e.symm hs hb
  rw [Bk.get_after h hx, h1, if_neg (by omega)]
section
variable {xi xo xp xa xpl yi yo yp ya ypl : Int} {xb yb : Bool}
theorem fst_b1 (h : yp < xp) : fst true ⟨xi, xo, xp, xa, xpl, xb⟩ ⟨yi, yo, yp, ya, ypl, yb⟩ = true := by unfold fst; grind
theorem fst_b2 (h : xp < yp) : fst false ⟨xi, xo, xp, xa, xpl, xb⟩ ⟨yi, yo, yp, ya, ypl, yb⟩ = true := by unfold fst; grind
theorem fst_b3 (b : Bool) (h : xpl < ypl) : fst b ⟨xi, xo, xp, xa, xpl, xb⟩ ⟨yi, yo, xp, ya, ypl, yb⟩ = true := by unfold fst; grind
end
set_option maxHeartbeats 16000000 in
set_option maxRecDepth 100000 in
theorem CallFirst_walk (W : World) (A : Option Addr) (len c : Nat) (L : List SAct) (hlen : L.length = len) (hlc : len ≤ c) (hcm : c ≤ maxLen) (h : SRow W A L) :
    Calls Try.prog 7 #[.slice A len c] W fun e w' => e = .returned (.bool true) ∧ Below W.heap.size W w' := by
  have HBe : Hid (Calls Try.prog 22 #[.slice A len c] W (Begins W (Bk.run L))) := Lib.hid (by
    have := begun_calls W A L c h (by unfold maxLen at hcm; omega)
    rwa [hlen] at this)
  have hok := Bk.run_ok L
  have HAw := Lib.hid (fun wx => awake_calls wx)
  clear h hlen hlc hcm
  generalize Bk.run L = B at HBe hok
  have hgone := Lib.hid (fun (f : Fil) (x y : Ord) (hf : f ∈ B.clear.2.2) (hx : x ∈ B.l) (hy : y ∈ B.l) (e : y.id = f.id) (hs : y.buys = x.buys) (hb : fst x.buys x y = true) => Bk.first_gone hok hf hx hy e hs hb)
  have hfew := hok.few
  have hff : B.clear.2.2.length ≤ 128 := Ca.fills_few _ _ _
  have HOrd := Lib.hid (fun w g gl (h : AtB w g gl B) => orders_calls w g gl B h)
  have HCl := Lib.hid (fun w g gl (h : AtB w g gl B) => clear_calls w g gl B h)
  have HGt := Lib.hid (fun w g gl (h : AtB w g gl B.clear.1) id => get_calls w g gl B.clear.1 h id)
  clear hok
  unfold Cleared at HCl
  unfold Listed at HOrd
  generalize B.clear = C at *
  obtain ⟨C1, ⟨P, N⟩, F⟩ := C
  simp only at *
  generalize B.l = Lw at *
  obtain ⟨n, hn⟩ : ∃ n, Hid (Lw.length = n) := ⟨_, Lib.hid rfl⟩
  obtain ⟨kk, hk⟩ : ∃ k, Hid (F.length = k) := ⟨_, Lib.hid rfl⟩
  rw [hn.out] at hfew
  rw [hk.out] at hff
  go_enter Try.func7, Try.ntmps7
  go_upto_region 2 with (go_at_call 22; (with_reducible refine HBe.out.mono ?_); rintro e w1 ⟨g, rfl, gl, hat, hg0, hgl0, hb1⟩; have HT1 := Lib.hid hat; have hgg : Hid (W.heap.size ≤ g ∧ (∀ k, gl = some k → W.heap.size ≤ k)) := Lib.hid ⟨hg0, hgl0⟩; have HB1 := Lib.hid hb1; clear hat hg0 hgl0 hb1)
  have hlt : Hid (g < w1.heap.size ∧ (∀ k, gl = some k → k < w1.heap.size)) := Lib.hid ⟨HT1.out.lt, fun k e => by
    obtain ⟨_, _, _, ho⟩ := HT1.out.box
    exact ho.lt e⟩
  go_upto_region 3 with (go_at_call 23; (with_reducible refine (HOrd.out _ _ _ HT1.out).mono ?_); rintro e w2 ⟨A2, c2, rfl, hm, hh⟩; rw [hn.out] at hm ⊢; have HM2 := Lib.hid hm; have HB2 := Lib.hid hh; clear hm hh)
  have HT2 := Lib.hid (HT1.out.below HB2.out)
  go_upto_region 4 with (go_at_call 24; (with_reducible refine (HCl.out _ _ _ HT2.out).mono ?_); rintro e w3 ⟨Af, cf, rfl, hm, hat, hon⟩; rw [hk.out] at hm ⊢; have HF3 := Lib.hid hm; have HT3 := Lib.hid hat; have HO3 := Lib.hid hon; clear hm hat hon)
  have HM3 : Hid (Mine w1 w3 6 (.slice A2 n c2) n (ocells Lw)) := Lib.hid (HM2.out.only HO3.out fun x hx => by
    rcases hx with rfl | hx
    · exact hlt.out.1
    · exact hlt.out.2 x hx.symm)
  have HB3 : Hid (Below W.heap.size W w3) := Lib.hid ((below_next HB1.out HB2.out).trans (HO3.out.below (below_next HB1.out HB2.out).size fun x hx => by
    rcases hx with rfl | hx
    · exact hgg.out.1
    · exact hgg.out.2 x hx.symm))
  have HR3 := Lib.hid (HM3.out.orow hn.out).2
  have HQ3 := Lib.hid (HF3.out.frow hk.out).2
  clear HT1 HT2 HM2 HM3 HF3 HO3 HB1 HB2 hlt hgg
  clear HBe HOrd HCl
  go_upto_region 5 with (fail)
  go_loopg [8] (kk + 1) (fun gk s8 wr => ∃ i : Nat, gk = kk + 1 - i ∧ i ≤ kk ∧ s8 = .int .i64 (i : Int) ∧ Hid (Below w3.heap.size w3 wr))
  case atStart => exact ⟨0, rfl, Nat.zero_le _, rfl, Lib.hid (Below.refl _ _)⟩
  case round =>
    obtain ⟨i, rfl, hi, rfl, hb⟩ := hrel
    have i0 : (0 : Int) ≤ (i : Int) := by omega
    by_cases hil : i < kk
    · have hiI : (i : Int) < (kk : Int) := by omega
      have hiL : Hid (i < F.length) := Lib.hid (by rw [hk.out]; exact hil)
      have HMi := Lib.hid (show kk + 1 - (i + 1) < kk + 1 - i by omega)
      obtain ⟨fb, fo, rfl⟩ : ∃ b o, Af = some ⟨b, o, none⟩ := by
        obtain ⟨b, o, e, _⟩ := HQ3.out.cells hiL.out
        exact ⟨b, o, e⟩
      have HD := Lib.hid (fun wx hh => FRow.three HQ3.out hiL.out (w' := wx) hh)
      have hg1 := Lib.hid (fun (x y : Ord) => hgone.out (F.getD i fil0) x y (by rw [List.getD_eq_getElem?_getD, List.getElem?_eq_getElem hiL.out]; exact List.getElem_mem hiL.out))
      generalize F.getD i fil0 = f at HD hg1
      obtain ⟨fi, fw, fa⟩ := f
      simp only at HD
      go_upto_region 8 with (fail)
      go_loopg [9] (n + 1) (fun gk s9 wr => ∃ k : Nat, gk = n + 1 - k ∧ k ≤ n ∧ s9 = .int .i64 (k : Int) ∧ Hid (Below w3.heap.size w3 wr))
      case atStart => exact ⟨0, rfl, Nat.zero_le _, rfl, hb⟩
      case round =>
        clear hb
        obtain ⟨k, rfl, hkn, rfl, hb⟩ := hrel
        have k0 : (0 : Int) ≤ (k : Int) := by omega
        by_cases hkl : k < n
        · have hkI : (k : Int) < (n : Int) := by omega
          have hkL : Hid (k < Lw.length) := Lib.hid (by rw [hn.out]; exact hkl)
          have HMk := Lib.hid (show n + 1 - (k + 1) < n + 1 - k by omega)
          obtain ⟨b, o, rfl⟩ : ∃ b o, A2 = some ⟨b, o, none⟩ := by
            obtain ⟨b, o, e, _⟩ := HR3.out.cells hkL.out
            exact ⟨b, o, e⟩
          obtain ⟨c0, c1, c2', c3, c4, c5⟩ := ORow.six HR3.out hkL.out hb.out
          have hmx : Hid (Lw.getD k ord0 ∈ Lw) := Lib.hid (getD_mem hkL.out)
          have hg2 := Lib.hid (fun (y : Ord) => hg1.out (Lw.getD k ord0) y hmx.out)
          generalize Lw.getD k ord0 = x at c0 c1 c2' c3 c4 c5 hmx hg2
          obtain ⟨xi, xo, xp, xa, xpl, xb⟩ := x
          simp only at c0 c1 c2' c3 c4 c5
          go_upto_region 11 with (fail)
          have hbx : Hid (Below w3.heap.size w3 (wr.alloc (.cells #[.int .i64 xi, .int .i64 xo, .int .i64 xp, .int .i64 xa, .int .i64 xpl, .bool xb] 33))) := Lib.hid (hb.out.alloc hb.out.size _)
          have BX := Lib.hid (Blk.new wr 33 #[.int .i64 xi, .int .i64 xo, .int .i64 xp, .int .i64 xa, .int .i64 xpl, .bool xb])
          obtain ⟨g1, hg1'⟩ : ∃ g1, Hid (wr.heap.size = g1) := ⟨_, Lib.hid rfl⟩
          rw [hg1'.out] at BX ⊢
          clear c0 c1 c2' c3 c4 c5
          generalize World.alloc wr _ = wx at hbx BX ⊢
          have e0 : wx.cell? ⟨g1, 0, none⟩ = some (.int .i64 xi) := BX.out.cell 0
          obtain ⟨d0, _⟩ := HD.out wx hbx.out
          by_cases hxf : xi = fi
          · have hx1 : (xi == fi) = true := by simpa using hxf
            clear hxf
            go_quiet (fail)
            go_wp2
            go_roundg (n + 1 - (k + 1))
            case measure => exact HMk.out
            case rel => exact ⟨k + 1, rfl, by omega, by first | rfl | go_num, Lib.hid (below_draw hbx.out _)⟩
          · have hx1 : (xi == fi) = false := by simpa using hxf
            clear hxf
            go_quiet (fail)
            generalize hwq : World.drewN wx _ = wq
            have hbq' : Hid (Below wx.heap.size wx wq) := Lib.hid (by rw [← hwq]; exact below_self _ _)
            clear hwq e0 d0
            have hbq := Lib.hid (below_next hbx.out hbq'.out)
            have BXq := Lib.hid (BX.out.below hbq'.out BX.out.lt)
            have HG0 := Lib.hid (fun wz hh => HGt.out wz g gl (HT3.out.below hh) xi)
            generalize C1.get xi = v at HG0 hg2
            obtain ⟨⟨vi, vo, vp, va, vpl, vb⟩, lf⟩ := v
            unfold oval at HG0
            simp only at HG0 hg2
            go_upto_region 13 with (fail)
            go_loopg [11] (n + 1) (fun gk s11 wr => ∃ j : Nat, gk = n + 1 - j ∧ j ≤ n ∧ s11 = .int .i64 (j : Int) ∧ Hid (Below wq.heap.size wq wr))
            case atStart => exact ⟨0, rfl, Nat.zero_le _, rfl, Lib.hid (Below.refl _ _)⟩
            case round =>
              obtain ⟨j, rfl, hj, rfl, hbj⟩ := hrel
              have j0 : (0 : Int) ≤ (j : Int) := by omega
              have hb3 := Lib.hid (below_next hbq.out hbj.out)
              by_cases hjl : j < n
              · have hjI : (j : Int) < (n : Int) := by omega
                have hjL : Hid (j < Lw.length) := Lib.hid (by rw [hn.out]; exact hjl)
                have HMj := Lib.hid (show n + 1 - (j + 1) < n + 1 - j by omega)
                obtain ⟨c0, c1, c2', c3, c4, c5⟩ := ORow.six HR3.out hjL.out hb3.out
                have hmy : Hid (Lw.getD j ord0 ∈ Lw) := Lib.hid (getD_mem hjL.out)
                have hg3 := Lib.hid (hg2.out (Lw.getD j ord0) hmy.out)
                generalize Lw.getD j ord0 = y at c0 c1 c2' c3 c4 c5 hmy hg3
                obtain ⟨yi, yo, yp, ya, ypl, yb⟩ := y
                simp only at c0 c1 c2' c3 c4 c5 hg3
                go_upto_region 16 with (fail)
                have hby : Hid (Below wq.heap.size wq (wr.alloc (.cells #[.int .i64 yi, .int .i64 yo, .int .i64 yp, .int .i64 ya, .int .i64 ypl, .bool yb] 33))) := Lib.hid (hbj.out.alloc hbj.out.size _)
                have BY := Lib.hid (Blk.new wr 33 #[.int .i64 yi, .int .i64 yo, .int .i64 yp, .int .i64 ya, .int .i64 ypl, .bool yb])
                obtain ⟨g2, hg2'⟩ : ∃ g2, Hid (wr.heap.size = g2) := ⟨_, Lib.hid rfl⟩
                rw [hg2'.out] at BY ⊢
                clear c0 c1 c2' c3 c4 c5
                generalize World.alloc wr _ = wy at hby BY ⊢
                have BXy := Lib.hid (BXq.out.below hby.out BXq.out.lt)
                obtain ⟨d0, _⟩ := HD.out wy (below_next hbq.out hby.out)
                obtain ⟨e0, e2, e4, e5⟩ : wy.cell? ⟨g1, 0, none⟩ = some (.int .i64 xi) ∧ wy.cell? ⟨g1, 2, none⟩ = some (.int .i64 xp) ∧ wy.cell? ⟨g1, 4, none⟩ = some (.int .i64 xpl) ∧ wy.cell? ⟨g1, 5, none⟩ = some (.bool xb) := ⟨BXy.out.cell 0, BXy.out.cell 2, BXy.out.cell 4, BXy.out.cell 5⟩
                obtain ⟨k0', k2, k4, k5⟩ : wy.cell? ⟨g2, 0, none⟩ = some (.int .i64 yi) ∧ wy.cell? ⟨g2, 2, none⟩ = some (.int .i64 yp) ∧ wy.cell? ⟨g2, 4, none⟩ = some (.int .i64 ypl) ∧ wy.cell? ⟨g2, 5, none⟩ = some (.bool yb) := ⟨BY.out.cell 0, BY.out.cell 2, BY.out.cell 4, BY.out.cell 5⟩
                by_cases hyf : yi = fi
                · have hy1 : (yi != fi) = false := by simpa using hyf
                  by_cases hyb : yb = xb
                  · subst hyb
                    have hy2 : (yb != yb) = false := by simp
                    have hgone2 := Lib.hid (hg3.out hyf rfl)
                    clear hyf hg3
                    go_quiet (fail)
                    generalize hwz : World.drewN wy _ = wz
                    have hbq' : Hid (Below wy.heap.size wy wz) := Lib.hid (by rw [← hwz]; exact below_self _ _)
                    clear hwz e0 e2 e4 e5 k0' k2 k4 k5 d0
                    have hbz := Lib.hid (below_next (below_next hbq.out hby.out) hbq'.out)
                    have hbzq := Lib.hid (below_next hby.out hbq'.out)
                    have BXz := Lib.hid (BXy.out.below hbq'.out BXy.out.lt)
                    have BYz := Lib.hid (BY.out.below hbq'.out BY.out.lt)
                    obtain ⟨e0, e2, e4, e5⟩ : wz.cell? ⟨g1, 0, none⟩ = some (.int .i64 xi) ∧ wz.cell? ⟨g1, 2, none⟩ = some (.int .i64 xp) ∧ wz.cell? ⟨g1, 4, none⟩ = some (.int .i64 xpl) ∧ wz.cell? ⟨g1, 5, none⟩ = some (.bool yb) := ⟨BXz.out.cell 0, BXz.out.cell 2, BXz.out.cell 4, BXz.out.cell 5⟩
                    obtain ⟨k2, k4⟩ : wz.cell? ⟨g2, 2, none⟩ = some (.int .i64 yp) ∧ wz.cell? ⟨g2, 4, none⟩ = some (.int .i64 ypl) := ⟨BYz.out.cell 2, BYz.out.cell 4⟩
                    cases yb with
                    | true =>
                      by_cases h1 : yp < xp
                      ·
                        have hlf := hgone2.out (by first | exact fst_b1 h1 | exact fst_b2 h1 | exact fst_b3 _ h3)
                        clear hgone2
                        subst hlf
                        go_upto_region 18 with (fail)
                        go_upto_region 19 with (go_at_call 26; (with_reducible refine (HG0.out _ hbz.out).mono ?_); rintro e w7 ⟨rfl, hh⟩; have HB7 := Lib.hid (below_next hbzq.out hh); clear hh)
                        go_wp2
                        go_roundg (n + 1 - (j + 1))
                        case measure => exact HMj.out
                        case rel => exact ⟨j + 1, rfl, by omega, by first | rfl | go_num, Lib.hid (HB7.out.alloc HB7.out.size _)⟩
                      · by_cases h2 : xp = yp
                        · subst h2
                          have h2' : (xp == xp) = true := by simp
                          by_cases h3 : xpl < ypl
                          ·
                            have hlf := hgone2.out (by first | exact fst_b1 h1 | exact fst_b2 h1 | exact fst_b3 _ h3)
                            clear hgone2
                            subst hlf
                            go_upto_region 18 with (fail)
                            go_upto_region 19 with (go_at_call 26; (with_reducible refine (HG0.out _ hbz.out).mono ?_); rintro e w7 ⟨rfl, hh⟩; have HB7 := Lib.hid (below_next hbzq.out hh); clear hh)
                            go_wp2
                            go_roundg (n + 1 - (j + 1))
                            case measure => exact HMj.out
                            case rel => exact ⟨j + 1, rfl, by omega, by first | rfl | go_num, Lib.hid (HB7.out.alloc HB7.out.size _)⟩
                          ·
                            clear hgone2
                            go_upto_region 18 with (fail)
                            go_upto_region 19 with (go_at_call 26; (with_reducible refine (HG0.out _ hbz.out).mono ?_); rintro e w7 ⟨rfl, hh⟩; have HB7 := Lib.hid (below_next hbzq.out hh); clear hh)
                            go_wp2
                            go_roundg (n + 1 - (j + 1))
                            case measure => exact HMj.out
                            case rel => exact ⟨j + 1, rfl, by omega, by first | rfl | go_num, Lib.hid (HB7.out.alloc HB7.out.size _)⟩
                        · have h2' : (xp == yp) = false := by simpa using h2
                          clear h2
                          clear hgone2
                          go_upto_region 18 with (fail)
                          go_upto_region 19 with (go_at_call 26; (with_reducible refine (HG0.out _ hbz.out).mono ?_); rintro e w7 ⟨rfl, hh⟩; have HB7 := Lib.hid (below_next hbzq.out hh); clear hh)
                          go_wp2
                          go_roundg (n + 1 - (j + 1))
                          case measure => exact HMj.out
                          case rel => exact ⟨j + 1, rfl, by omega, by first | rfl | go_num, Lib.hid (HB7.out.alloc HB7.out.size _)⟩
                    | false =>
                      by_cases h1 : xp < yp
                      ·
                        have hlf := hgone2.out (by first | exact fst_b1 h1 | exact fst_b2 h1 | exact fst_b3 _ h3)
                        clear hgone2
                        subst hlf
                        go_upto_region 18 with (fail)
                        go_upto_region 19 with (go_at_call 26; (with_reducible refine (HG0.out _ hbz.out).mono ?_); rintro e w7 ⟨rfl, hh⟩; have HB7 := Lib.hid (below_next hbzq.out hh); clear hh)
                        go_wp2
                        go_roundg (n + 1 - (j + 1))
                        case measure => exact HMj.out
                        case rel => exact ⟨j + 1, rfl, by omega, by first | rfl | go_num, Lib.hid (HB7.out.alloc HB7.out.size _)⟩
                      · by_cases h2 : xp = yp
                        · subst h2
                          have h2' : (xp == xp) = true := by simp
                          by_cases h3 : xpl < ypl
                          ·
                            have hlf := hgone2.out (by first | exact fst_b1 h1 | exact fst_b2 h1 | exact fst_b3 _ h3)
                            clear hgone2
                            subst hlf
                            go_upto_region 18 with (fail)
                            go_upto_region 19 with (go_at_call 26; (with_reducible refine (HG0.out _ hbz.out).mono ?_); rintro e w7 ⟨rfl, hh⟩; have HB7 := Lib.hid (below_next hbzq.out hh); clear hh)
                            go_wp2
                            go_roundg (n + 1 - (j + 1))
                            case measure => exact HMj.out
                            case rel => exact ⟨j + 1, rfl, by omega, by first | rfl | go_num, Lib.hid (HB7.out.alloc HB7.out.size _)⟩
                          ·
                            clear hgone2
                            go_upto_region 18 with (fail)
                            go_upto_region 19 with (go_at_call 26; (with_reducible refine (HG0.out _ hbz.out).mono ?_); rintro e w7 ⟨rfl, hh⟩; have HB7 := Lib.hid (below_next hbzq.out hh); clear hh)
                            go_wp2
                            go_roundg (n + 1 - (j + 1))
                            case measure => exact HMj.out
                            case rel => exact ⟨j + 1, rfl, by omega, by first | rfl | go_num, Lib.hid (HB7.out.alloc HB7.out.size _)⟩
                        · have h2' : (xp == yp) = false := by simpa using h2
                          clear h2
                          clear hgone2
                          go_upto_region 18 with (fail)
                          go_upto_region 19 with (go_at_call 26; (with_reducible refine (HG0.out _ hbz.out).mono ?_); rintro e w7 ⟨rfl, hh⟩; have HB7 := Lib.hid (below_next hbzq.out hh); clear hh)
                          go_wp2
                          go_roundg (n + 1 - (j + 1))
                          case measure => exact HMj.out
                          case rel => exact ⟨j + 1, rfl, by omega, by first | rfl | go_num, Lib.hid (HB7.out.alloc HB7.out.size _)⟩
                  · cases yb <;> cases xb
                    · exact absurd rfl hyb
                    · clear hyf hyb hg3
                      go_quiet (fail)
                      go_wp2
                      go_roundg (n + 1 - (j + 1))
                      case measure => exact HMj.out
                      case rel => exact ⟨j + 1, rfl, by omega, by first | rfl | go_num, Lib.hid (below_draw hby.out _)⟩
                    · clear hyf hyb hg3
                      go_quiet (fail)
                      go_wp2
                      go_roundg (n + 1 - (j + 1))
                      case measure => exact HMj.out
                      case rel => exact ⟨j + 1, rfl, by omega, by first | rfl | go_num, Lib.hid (below_draw hby.out _)⟩
                    · exact absurd rfl hyb
                · have hy1 : (yi != fi) = true := by simpa using hyf
                  clear hyf hg3
                  go_quiet (fail)
                  go_wp2
                  go_roundg (n + 1 - (j + 1))
                  case measure => exact HMj.out
                  case rel => exact ⟨j + 1, rfl, by omega, by first | rfl | go_num, Lib.hid (below_draw hby.out _)⟩
              · obtain rfl : n = j := by omega
                go_wp2
                go_roundg (n + 1 - (k + 1))
                case measure => exact HMk.out
                case rel => exact ⟨k + 1, rfl, by omega, by first | rfl | go_num, hb3⟩
        · obtain rfl : n = k := by omega
          go_wp2
          go_roundg (kk + 1 - (i + 1))
          case measure => exact HMi.out
          case rel => exact ⟨i + 1, rfl, by omega, by first | rfl | go_num, hb⟩
    · obtain rfl : kk = i := by omega
      go_wp2_with (go_at_call 20; (with_reducible refine (HAw.out _).mono ?_); rintro e w8 ⟨rfl, hh⟩; have HB8 := Lib.hid (below_next hb.out hh); clear hh)
      refine bodyPost_ret (by simp [results, Try.results7, asAddr, go_sem]; rfl) rfl ?_
      exact ⟨rfl, HB3.out.trans (HB8.out.mono HB3.out.size)⟩
end Go.Proofs.Ytilbhnloelgpdaa
