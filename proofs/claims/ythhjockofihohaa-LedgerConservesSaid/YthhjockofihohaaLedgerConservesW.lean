/- The walk of LedgerConserves: cash and goods are made and taken away by Pay, Take, Store and Fetch alone. -/
import Derived.Test.YthhjockofihohaaConsP
import Derived.Test.YthhjockofihohaaLedF2
import Derived.Test.YthhjockofihohaaEq4
namespace Go.Proofs.Ythhjockofihohaa
open Go.RowKit
/-- The four totals, as the law holds them. -/
def four (T : Nat → Int) : Array Value := #[.int .i64 (T 0), .int .i64 (T 1), .int .i64 (T 2), .int .i64 (T 3)]
theorem four_at (T : Nat → Int) {p : Nat} (h : p < 4) : (four T)[p]? = some (.int .i64 (T p)) := by
  rcases (show p = 0 ∨ p = 1 ∨ p = 2 ∨ p = 3 by omega) with rfl | rfl | rfl | rfl <;> rfl
theorem four_set (T : Nat → Int) {p : Nat} (h : p < 4) (v : Int) : (four T).setIfInBounds p (.int .i64 v) = four fun q => if q = p then v else T q := by
  rcases (show p = 0 ∨ p = 1 ∨ p = 2 ∨ p = 3 by omega) with rfl | rfl | rfl | rfl <;> rfl
/-- Behind the call: the ledger x', and the law's own reckoning of cash and goods in block gt. -/
structure CS (w wr : World) (g gl gt : Nat) (x : Led) (T : Nat → Int) : Prop where
  lw : Lw w wr g gl x
  blk : Blk wr gt 27 (four T)
theorem CS.drew {w wr : World} {g gl gt : Nat} {x : Led} {T : Nat → Int} (h : CS w wr g gl gt x T) : CS w wr.drew g gl gt x T := ⟨h.lw.drewN 1, h.blk.drewN 1⟩
set_option maxHeartbeats 2000000 in
/-- The end of the law: from where the totals are asked again. -/
theorem cons_end (w1 : World) (g gl gt : Nat) (x : Led) (T : Nat → Int) (wr : World) (h : CS w1 wr g gl gt x T) (hT : ∀ q, q < 4 → x.tot (2 + q) = T q) :
    Calls Try.prog 8 #[.pointer (some ⟨g, 0, none⟩)] wr fun e w' => e = .returned (.tuple #[.int .i64 (x.tot 0), .agg (four T)]) ∧ CS w1 w' g gl gt x T ∧ Below wr.heap.size wr w' := by
  refine (totals_calls wr g gl x h.lw.at_).mono fun e w' ⟨h1, h2⟩ => ⟨?_, ⟨h.lw.next h2, h.blk.below h2 h.blk.lt⟩, h2⟩
  rw [h1]
  unfold four
  rw [← hT 0 (by omega), ← hT 1 (by omega), ← hT 2 (by omega), ← hT 3 (by omega)]
set_option maxHeartbeats 8000000 in
set_option maxRecDepth 100000 in
theorem LedgerConserves_walk (w : World) (A : Option Addr) (n c : Nat) (Z : Nat → LAct) (hZ : Script w A n Z) (a : LAct) :
    Calls Try.prog 3 #[.slice A n c, .agg (acells a).toArray] w fun e w' => e = .returned (.bool true) ∧ Below w.heap.size w w' := by
  have HZ := Lib.hid hZ
  obtain ⟨gb, hgb⟩ : ∃ gb, gb = w.heap.size := ⟨_, rfl⟩
  obtain ⟨wb, hwb⟩ : ∃ wb, wb = w.alloc (.cells (acells a).toArray 24) := ⟨_, rfl⟩
  have Bb : Hid (Blk wb gb 24 (acells a).toArray) := Lib.hid (by rw [hwb, hgb]; exact Blk.new _ _ _)
  have HB0 : Hid (Below w.heap.size w wb) := Lib.hid (by rw [hwb]; exact (Below.refl _ _).alloc (Nat.le_refl _) _)
  have HB := Lib.hid (begun_calls wb A n c Z (HZ.out.below HB0.out))
  obtain ⟨hx3, hx2⟩ := Led.three_acts Z (min n 100)
  generalize Led.three.acts Z (min n 100) = x at HB hx3 hx2
  have HX2 := Lib.hid hx2
  have HACT := Lib.hid (Led.act_tot x (by rw [hx2]; omega) a)
  have HDO := Lib.hid (fun w g gl (h : AtL w g gl x) => done_only w g gl x h a)
  have HCE : Hid (∀ w1 : World, Blk w1 gb 24 (acells a).toArray → w1.cell? ⟨gb, 0, none⟩ = some (.int .i64 a.kind) ∧ w1.cell? ⟨gb, 1, none⟩ = some (.int .i64 a.who) ∧ w1.cell? ⟨gb, 2, none⟩ = some (.int .i64 a.dst) ∧ w1.cell? ⟨gb, 3, none⟩ = some (.int .i64 a.good) ∧ w1.cell? ⟨gb, 4, none⟩ = some (.int .i64 a.n) ∧ w1.cell? ⟨gb, 5, none⟩ = some (.string a.text)) := Lib.hid fun w1 h => ⟨h.cell 0, h.cell 1, h.cell 2, h.cell 3, h.cell 4, h.cell 5⟩
  have HK := Lib.hid (fun w => around11 a.kind w)
  have HG := Lib.hid (fun w => around4 a.good w)
  have hg4 := arnd_lt a.good (below := 4) (by omega)
  have HWB : Hid (w.alloc (.cells #[.int .i64 a.kind, .int .i64 a.who, .int .i64 a.dst, .int .i64 a.good, .int .i64 a.n, .string a.text] 24) = wb) := Lib.hid hwb.symm
  unfold acells at HDO ⊢
  clear hZ hx3 hx2 hwb
  go_enter Try.func3, Try.ntmps3
  go_upto_region 1 with (fail)
  rw [← hgb, HWB.out]
  have hgb2 : Hid (gb < wb.heap.size) := Lib.hid Bb.out.lt
  clear hgb HWB
  go_upto_region 4 with (first
    | (go_at_call 7; (refine HB.out.mono ?_); rintro e w1 ⟨g, gl, rfl, h⟩; have H0 := Lib.hid h; clear h))
  have HT := Lib.hid (H0.out.totals)
  have t0 : 0 ≤ x.tot 0 := sumTo_pos fun j hj => by have := H0.out.at_.ok.cash j hj; omega
  have t1 := H0.out.at_.ok.most
  have HTG : Hid (∀ q, q < 4 → 0 ≤ x.tot (2 + q) ∧ x.tot (2 + q) ≤ 1099511627776) := Lib.hid fun q hq => ⟨sumTo_pos fun j hj => by have := H0.out.at_.ok.good j q hj hq; omega, H0.out.at_.ok.mosts q hq⟩
  have hgl : Hid (gb ≠ gl) := Lib.hid (by have := H0.out.list; have := hgb2.out; omega)
  clear HB
  go_upto_region 5 with (first
    | (go_at_call 8; (refine HT.out.mono ?_); rintro e w2 ⟨rfl, h⟩; have H1 := Lib.hid h; clear h))
  obtain ⟨gt, hgt⟩ : ∃ gt, gt = w2.heap.size := ⟨_, rfl⟩
  have H2 : Hid (Lw wb (w2.alloc (.cells #[.int .i64 (x.tot 2), .int .i64 (x.tot 3), .int .i64 (x.tot 4), .int .i64 (x.tot 5)] 27)) g gl x) := Lib.hid (H1.out.next ((Below.refl _ _).alloc (Nat.le_refl _) _))
  have B2 : Hid (Blk (w2.alloc (.cells #[.int .i64 (x.tot 2), .int .i64 (x.tot 3), .int .i64 (x.tot 4), .int .i64 (x.tot 5)] 27)) gt 27 (four fun q => x.tot (2 + q))) := Lib.hid (by rw [hgt]; exact Blk.new _ _ _)
  have hgt2 : Hid (gt ≠ gl) := Lib.hid (by have := H1.out.at_.list.lt; omega)
  have HGT0 : Hid (g ≠ gt) := Lib.hid (by have := H1.out.at_.head.lt; omega)
  have HGTB : Hid (wb.heap.size ≤ gt) := Lib.hid (by rw [hgt]; exact H1.out.all.size)
  rw [← hgt]
  generalize World.alloc w2 _ = wy at H2 B2 ⊢
  have B2b : Hid (Blk wy gb 24 (acells a).toArray) := Lib.hid (Bb.out.below H2.out.all hgb2.out)
  obtain ⟨a0, a1, a2, a3, a4, a5⟩ := HCE.out wy B2b.out
  have HD := Lib.hid (HDO.out wy g gl H2.out.at_)
  clear hgt H0 H1 HT HDO
  obtain ⟨y, hy⟩ : ∃ y, Hid (x.act a = y) := ⟨_, Lib.hid rfl⟩
  rw [hy.out] at HD HACT
  go_upto_region 6 with (first
    | (go_at_call 9; (refine HD.out.mono ?_); rintro e w3 ⟨rfl, h, ho⟩; have A3 := Lib.hid h; have O3 := Lib.hid ho; clear h ho))
  have H3 : Hid (Lw wb w3 g gl y.1) := Lib.hid (H2.out.turn A3.out O3.out)
  have B3 : Hid (Blk w3 gt 27 (four fun q => x.tot (2 + q))) := Lib.hid (by unfold Blk; rw [O3.out.block gt B2.out.lt hgt2.out]; exact B2.out)
  have Bb3 : Hid (Blk w3 gb 24 (acells a).toArray) := Lib.hid (by unfold Blk; rw [O3.out.block gb B2b.out.lt hgl.out]; exact B2b.out)
  have HGG : Hid (g ≠ gt) := Lib.hid HGT0.out
  have y0 : 0 ≤ y.1.tot 0 := sumTo_pos fun j hj => by have := A3.out.ok.cash j hj; omega
  have y1 := A3.out.ok.most
  obtain ⟨T', hT'⟩ : ∃ T' : Nat → Int, Hid (T' = fun q => x.tot (2 + q)) := ⟨_, Lib.hid rfl⟩
  rw [← hT'.out] at B3
  obtain ⟨b0, -, -, b3, b4, -⟩ := HCE.out w3 Bb3.out
  obtain ⟨k, hk⟩ : ∃ k, arnd a.kind 11 = k := ⟨_, rfl⟩
  rw [hk] at HK HACT
  obtain ⟨kg, hkg⟩ : ∃ kg, arnd a.good 4 = kg := ⟨_, rfl⟩
  rw [hkg] at HG HACT hg4
  generalize a.kind = ak at b0 HK
  generalize a.good = ag at b3 HG
  clear a0 a1 a2 a3 a4 a5 hk hkg HD A3 O3 B2 B2b H2 HCE
  rcases HACT.out with ⟨h1, h2⟩ | ⟨h1, h2, h3, h4⟩ | ⟨h1, h2, h3, h4⟩ | ⟨h1, h2, n0, n1, h3, h4⟩ | ⟨h1, h2, n0, n1, h3, h4⟩ | ⟨h1, h2, h3, h4⟩
  · have hne : (y.2 == 0) = false := by simpa using h1
    have HTT : Hid (∀ q, q < 4 → y.1.tot (2 + q) = T' q) := Lib.hid fun q hq => by rw [h2, hT'.out]
    have HC : Hid (y.1.tot 0 = x.tot 0) := Lib.hid (by rw [h2])
    generalize y.2 = er at h1 hne ⊢
    generalize x.tot 0 = tc at t0 t1 HC ⊢
    clear h2 HACT y0 y1
    have HE := Lib.hid (cons_end _ g gl gt _ _ _ (⟨H3.out, B3.out⟩) (HTT.out))
    rw [HC.out] at HE
    unfold four at HE
    obtain ⟨s0, hs0⟩ : ∃ s, T' 0 = s := ⟨_, rfl⟩
    obtain ⟨s1, hs1⟩ : ∃ s, T' 1 = s := ⟨_, rfl⟩
    obtain ⟨s2, hs2⟩ : ∃ s, T' 2 = s := ⟨_, rfl⟩
    obtain ⟨s3, hs3⟩ : ∃ s, T' 3 = s := ⟨_, rfl⟩
    rw [hs0, hs1, hs2, hs3] at HE
    have HF : Hid (four T' = #[.int .i64 s0, .int .i64 s1, .int .i64 s2, .int .i64 s3]) := Lib.hid (by unfold four; rw [hs0, hs1, hs2, hs3])
    clear hs0 hs1 hs2 hs3
    go_upto_region 17 with (first
      | (go_at_call 10; (with_reducible refine (HK.out _).mono ?_); rintro e w1 ⟨rfl, rfl⟩)
      | (go_at_call 8; (refine HE.out.mono ?_); rintro e w4 ⟨rfl, h, hb⟩; have C4 := Lib.hid h; have hb4 := Lib.hid hb; clear h hb))
    obtain ⟨gz, hgz⟩ : ∃ gz, gz = w4.heap.size := ⟨_, rfl⟩
    have B5 : Hid (Blk (w4.alloc (.cells #[.int .i64 s0, .int .i64 s1, .int .i64 s2, .int .i64 s3] 27)) gz 27 #[.int .i64 s0, .int .i64 s1, .int .i64 s2, .int .i64 s3]) := Lib.hid (by rw [hgz]; exact Blk.new _ _ _)
    have B6 : Hid (Blk (w4.alloc (.cells #[.int .i64 s0, .int .i64 s1, .int .i64 s2, .int .i64 s3] 27)) gt 27 #[.int .i64 s0, .int .i64 s1, .int .i64 s2, .int .i64 s3]) := Lib.hid (by rw [← HF.out]; exact C4.out.blk.alloc _)
    have H6 : Hid (Below wb.heap.size wb (w4.alloc (.cells #[.int .i64 s0, .int .i64 s1, .int .i64 s2, .int .i64 s3] 27))) := Lib.hid (C4.out.lw.all.alloc C4.out.lw.all.size _)
    rw [← hgz]
    generalize World.alloc w4 _ = wz at B5 B6 H6 ⊢
    have d0 : wz.cell? ⟨gz, 0, none⟩ = some (.int .i64 s0) := B5.out.cell 0
    have d1 : wz.cell? ⟨gz, 1, none⟩ = some (.int .i64 s1) := B5.out.cell 1
    have d2 : wz.cell? ⟨gz, 2, none⟩ = some (.int .i64 s2) := B5.out.cell 2
    have d3 : wz.cell? ⟨gz, 3, none⟩ = some (.int .i64 s3) := B5.out.cell 3
    have e0 : wz.cell? ⟨gt, 0, none⟩ = some (.int .i64 s0) := B6.out.cell 0
    have e1 : wz.cell? ⟨gt, 1, none⟩ = some (.int .i64 s1) := B6.out.cell 1
    have e2 : wz.cell? ⟨gt, 2, none⟩ = some (.int .i64 s2) := B6.out.cell 2
    have e3 : wz.cell? ⟨gt, 3, none⟩ = some (.int .i64 s3) := B6.out.cell 3
    clear hgz
    have hq4 := fun w1 => eq4 w1 s0 s1 s2 s3
    go_wp2_with (first | (go_at_call 11; (with_reducible refine (awake_calls _).mono ?_); rintro e w5 ⟨rfl, hb⟩))
    go_ret
    exact ⟨rfl, HB0.out.trans ((H6.out.trans (hb.mono H6.out.size)).mono HB0.out.size)⟩
  · subst h2
    rw [h1]
    have HTT : Hid (∀ q, q < 4 → y.1.tot (2 + q) = T' q) := Lib.hid fun q hq => by rw [h4 q hq, hT'.out]
    have HC : Hid (y.1.tot 0 = x.tot 0 + a.n) := Lib.hid h3
    rw [h3] at y0 y1
    generalize x.tot 0 = tc at t0 t1 HC y0 y1 ⊢
    generalize a.n = an at b4 HC y0 y1
    clear h3 h4 HACT h1
    have HE := Lib.hid (cons_end _ g gl gt _ _ _ (⟨H3.out, B3.out⟩) (HTT.out))
    rw [HC.out] at HE
    unfold four at HE
    obtain ⟨s0, hs0⟩ : ∃ s, T' 0 = s := ⟨_, rfl⟩
    obtain ⟨s1, hs1⟩ : ∃ s, T' 1 = s := ⟨_, rfl⟩
    obtain ⟨s2, hs2⟩ : ∃ s, T' 2 = s := ⟨_, rfl⟩
    obtain ⟨s3, hs3⟩ : ∃ s, T' 3 = s := ⟨_, rfl⟩
    rw [hs0, hs1, hs2, hs3] at HE
    have HF : Hid (four T' = #[.int .i64 s0, .int .i64 s1, .int .i64 s2, .int .i64 s3]) := Lib.hid (by unfold four; rw [hs0, hs1, hs2, hs3])
    clear hs0 hs1 hs2 hs3
    go_upto_region 17 with (first
      | (go_at_call 10; (with_reducible refine (HK.out _).mono ?_); rintro e w1 ⟨rfl, rfl⟩)
      | (go_at_call 8; (refine HE.out.mono ?_); rintro e w4 ⟨rfl, h, hb⟩; have C4 := Lib.hid h; have hb4 := Lib.hid hb; clear h hb))
    obtain ⟨gz, hgz⟩ : ∃ gz, gz = w4.heap.size := ⟨_, rfl⟩
    have B5 : Hid (Blk (w4.alloc (.cells #[.int .i64 s0, .int .i64 s1, .int .i64 s2, .int .i64 s3] 27)) gz 27 #[.int .i64 s0, .int .i64 s1, .int .i64 s2, .int .i64 s3]) := Lib.hid (by rw [hgz]; exact Blk.new _ _ _)
    have B6 : Hid (Blk (w4.alloc (.cells #[.int .i64 s0, .int .i64 s1, .int .i64 s2, .int .i64 s3] 27)) gt 27 #[.int .i64 s0, .int .i64 s1, .int .i64 s2, .int .i64 s3]) := Lib.hid (by rw [← HF.out]; exact C4.out.blk.alloc _)
    have H6 : Hid (Below wb.heap.size wb (w4.alloc (.cells #[.int .i64 s0, .int .i64 s1, .int .i64 s2, .int .i64 s3] 27))) := Lib.hid (C4.out.lw.all.alloc C4.out.lw.all.size _)
    rw [← hgz]
    generalize World.alloc w4 _ = wz at B5 B6 H6 ⊢
    have d0 : wz.cell? ⟨gz, 0, none⟩ = some (.int .i64 s0) := B5.out.cell 0
    have d1 : wz.cell? ⟨gz, 1, none⟩ = some (.int .i64 s1) := B5.out.cell 1
    have d2 : wz.cell? ⟨gz, 2, none⟩ = some (.int .i64 s2) := B5.out.cell 2
    have d3 : wz.cell? ⟨gz, 3, none⟩ = some (.int .i64 s3) := B5.out.cell 3
    have e0 : wz.cell? ⟨gt, 0, none⟩ = some (.int .i64 s0) := B6.out.cell 0
    have e1 : wz.cell? ⟨gt, 1, none⟩ = some (.int .i64 s1) := B6.out.cell 1
    have e2 : wz.cell? ⟨gt, 2, none⟩ = some (.int .i64 s2) := B6.out.cell 2
    have e3 : wz.cell? ⟨gt, 3, none⟩ = some (.int .i64 s3) := B6.out.cell 3
    clear hgz
    have hq4 := fun w1 => eq4 w1 s0 s1 s2 s3
    go_wp2_with (first | (go_at_call 11; (with_reducible refine (awake_calls _).mono ?_); rintro e w5 ⟨rfl, hb⟩))
    go_ret
    exact ⟨rfl, HB0.out.trans ((H6.out.trans (hb.mono H6.out.size)).mono HB0.out.size)⟩
  · subst h2
    rw [h1]
    have HTT : Hid (∀ q, q < 4 → y.1.tot (2 + q) = T' q) := Lib.hid fun q hq => by rw [h4 q hq, hT'.out]
    have HC : Hid (y.1.tot 0 = x.tot 0 - a.n) := Lib.hid h3
    rw [h3] at y0 y1
    generalize x.tot 0 = tc at t0 t1 HC y0 y1 ⊢
    generalize a.n = an at b4 HC y0 y1
    clear h3 h4 HACT h1
    have HE := Lib.hid (cons_end _ g gl gt _ _ _ (⟨H3.out, B3.out⟩) (HTT.out))
    rw [HC.out] at HE
    unfold four at HE
    obtain ⟨s0, hs0⟩ : ∃ s, T' 0 = s := ⟨_, rfl⟩
    obtain ⟨s1, hs1⟩ : ∃ s, T' 1 = s := ⟨_, rfl⟩
    obtain ⟨s2, hs2⟩ : ∃ s, T' 2 = s := ⟨_, rfl⟩
    obtain ⟨s3, hs3⟩ : ∃ s, T' 3 = s := ⟨_, rfl⟩
    rw [hs0, hs1, hs2, hs3] at HE
    have HF : Hid (four T' = #[.int .i64 s0, .int .i64 s1, .int .i64 s2, .int .i64 s3]) := Lib.hid (by unfold four; rw [hs0, hs1, hs2, hs3])
    clear hs0 hs1 hs2 hs3
    go_upto_region 17 with (first
      | (go_at_call 10; (with_reducible refine (HK.out _).mono ?_); rintro e w1 ⟨rfl, rfl⟩)
      | (go_at_call 8; (refine HE.out.mono ?_); rintro e w4 ⟨rfl, h, hb⟩; have C4 := Lib.hid h; have hb4 := Lib.hid hb; clear h hb))
    obtain ⟨gz, hgz⟩ : ∃ gz, gz = w4.heap.size := ⟨_, rfl⟩
    have B5 : Hid (Blk (w4.alloc (.cells #[.int .i64 s0, .int .i64 s1, .int .i64 s2, .int .i64 s3] 27)) gz 27 #[.int .i64 s0, .int .i64 s1, .int .i64 s2, .int .i64 s3]) := Lib.hid (by rw [hgz]; exact Blk.new _ _ _)
    have B6 : Hid (Blk (w4.alloc (.cells #[.int .i64 s0, .int .i64 s1, .int .i64 s2, .int .i64 s3] 27)) gt 27 #[.int .i64 s0, .int .i64 s1, .int .i64 s2, .int .i64 s3]) := Lib.hid (by rw [← HF.out]; exact C4.out.blk.alloc _)
    have H6 : Hid (Below wb.heap.size wb (w4.alloc (.cells #[.int .i64 s0, .int .i64 s1, .int .i64 s2, .int .i64 s3] 27))) := Lib.hid (C4.out.lw.all.alloc C4.out.lw.all.size _)
    rw [← hgz]
    generalize World.alloc w4 _ = wz at B5 B6 H6 ⊢
    have d0 : wz.cell? ⟨gz, 0, none⟩ = some (.int .i64 s0) := B5.out.cell 0
    have d1 : wz.cell? ⟨gz, 1, none⟩ = some (.int .i64 s1) := B5.out.cell 1
    have d2 : wz.cell? ⟨gz, 2, none⟩ = some (.int .i64 s2) := B5.out.cell 2
    have d3 : wz.cell? ⟨gz, 3, none⟩ = some (.int .i64 s3) := B5.out.cell 3
    have e0 : wz.cell? ⟨gt, 0, none⟩ = some (.int .i64 s0) := B6.out.cell 0
    have e1 : wz.cell? ⟨gt, 1, none⟩ = some (.int .i64 s1) := B6.out.cell 1
    have e2 : wz.cell? ⟨gt, 2, none⟩ = some (.int .i64 s2) := B6.out.cell 2
    have e3 : wz.cell? ⟨gt, 3, none⟩ = some (.int .i64 s3) := B6.out.cell 3
    clear hgz
    have hq4 := fun w1 => eq4 w1 s0 s1 s2 s3
    go_wp2_with (first | (go_at_call 11; (with_reducible refine (awake_calls _).mono ?_); rintro e w5 ⟨rfl, hb⟩))
    go_ret
    exact ⟨rfl, HB0.out.trans ((H6.out.trans (hb.mono H6.out.size)).mono HB0.out.size)⟩
  · subst h2
    rw [h1]
    have hkI : (kg : Int) < 4 := by omega
    have hk0 : (0 : Int) ≤ (kg : Int) := by omega
    have HC : Hid (y.1.tot 0 = x.tot 0) := Lib.hid h3
    obtain ⟨z0, z1⟩ := HTG.out kg hg4
    have cz : w3.cell? ⟨gt, kg, none⟩ = some (.int .i64 (x.tot (2 + kg))) := by rw [B3.out.cell, hT'.out]; exact four_at _ hg4
    have fz := B3.out.frozen kg
    obtain ⟨T2, hT2⟩ : ∃ T2 : Nat → Int, Hid (T2 = fun q => if q = kg then x.tot (2 + kg) + a.n else T' q) := ⟨_, Lib.hid rfl⟩
    have HTT : Hid (∀ q, q < 4 → y.1.tot (2 + q) = T2 q) := Lib.hid fun q hq => by
      rw [h4 q hq, hT2.out, hT'.out]
      by_cases e : q = kg
      · subst e; rw [if_pos rfl]; simp
      · rw [if_neg e]; simp [e]
    have HS : Hid (∀ v, v = x.tot (2 + kg) + a.n → CS wb (w3.setCell ⟨gt, kg, none⟩ (.int .i64 v)) g gl gt y.1 T2) := Lib.hid fun v hv => by
      have hb := B3.out.set_ kg (.int .i64 v)
      rw [four_set T' hg4, hv, ← hT2.out] at hb
      refine ⟨⟨⟨(H3.out.at_.head).far HGG.out _, H3.out.at_.list.far hgt2.out.symm _, H3.out.at_.ne, H3.out.at_.ok⟩, H3.out.head, H3.out.list, H3.out.all.setCell (p := ⟨gt, kg, none⟩) HGTB.out _⟩, by rw [hv]; exact hb⟩
    generalize x.tot 0 = tc at t0 t1 HC ⊢
    generalize x.tot (2 + kg) = tg at cz z0 z1 HS
    generalize a.n = an at b4 HS n0 n1
    clear h3 h4 HACT h1 y0 y1
    go_upto_region 13 with (first
      | (go_at_call 10; (with_reducible refine (HK.out _).mono ?_); rintro e w1 ⟨rfl, rfl⟩))
    refine wp_region_still_tail 12 (by kernel_rfl) (by kernel_rfl) ?_
    simp only [List.take_succ_cons, List.take_zero, List.drop_succ_cons, List.drop_zero]
    repeat (first | still_step | (still_call ((HG.out _).mono fun _ _ h => ⟨h.1, h.2.symm⟩)))
    try refine wpStill_nil ?_
    change wpList _ _ _ _ _ w3.drew
    go_upto_region 16 with (fail)
    generalize hwq : World.drew _ = wq
    have CQ : Hid (CS wb wq g gl gt y.1 T2) := Lib.hid (by rw [← hwq]; exact (HS.out _ (by omega)).drew)
    clear hwq cz fz HS B3 Bb3 H3
    have HE := Lib.hid (cons_end _ g gl gt _ _ _ (CQ.out) (HTT.out))
    rw [HC.out] at HE
    unfold four at HE
    obtain ⟨s0, hs0⟩ : ∃ s, T2 0 = s := ⟨_, rfl⟩
    obtain ⟨s1, hs1⟩ : ∃ s, T2 1 = s := ⟨_, rfl⟩
    obtain ⟨s2, hs2⟩ : ∃ s, T2 2 = s := ⟨_, rfl⟩
    obtain ⟨s3, hs3⟩ : ∃ s, T2 3 = s := ⟨_, rfl⟩
    rw [hs0, hs1, hs2, hs3] at HE
    have HF : Hid (four T2 = #[.int .i64 s0, .int .i64 s1, .int .i64 s2, .int .i64 s3]) := Lib.hid (by unfold four; rw [hs0, hs1, hs2, hs3])
    clear hs0 hs1 hs2 hs3
    go_upto_region 17 with (first
      | (go_at_call 10; (with_reducible refine (HK.out _).mono ?_); rintro e w1 ⟨rfl, rfl⟩)
      | (go_at_call 8; (refine HE.out.mono ?_); rintro e w4 ⟨rfl, h, hb⟩; have C4 := Lib.hid h; have hb4 := Lib.hid hb; clear h hb))
    obtain ⟨gz, hgz⟩ : ∃ gz, gz = w4.heap.size := ⟨_, rfl⟩
    have B5 : Hid (Blk (w4.alloc (.cells #[.int .i64 s0, .int .i64 s1, .int .i64 s2, .int .i64 s3] 27)) gz 27 #[.int .i64 s0, .int .i64 s1, .int .i64 s2, .int .i64 s3]) := Lib.hid (by rw [hgz]; exact Blk.new _ _ _)
    have B6 : Hid (Blk (w4.alloc (.cells #[.int .i64 s0, .int .i64 s1, .int .i64 s2, .int .i64 s3] 27)) gt 27 #[.int .i64 s0, .int .i64 s1, .int .i64 s2, .int .i64 s3]) := Lib.hid (by rw [← HF.out]; exact C4.out.blk.alloc _)
    have H6 : Hid (Below wb.heap.size wb (w4.alloc (.cells #[.int .i64 s0, .int .i64 s1, .int .i64 s2, .int .i64 s3] 27))) := Lib.hid (C4.out.lw.all.alloc C4.out.lw.all.size _)
    rw [← hgz]
    generalize World.alloc w4 _ = wz at B5 B6 H6 ⊢
    have d0 : wz.cell? ⟨gz, 0, none⟩ = some (.int .i64 s0) := B5.out.cell 0
    have d1 : wz.cell? ⟨gz, 1, none⟩ = some (.int .i64 s1) := B5.out.cell 1
    have d2 : wz.cell? ⟨gz, 2, none⟩ = some (.int .i64 s2) := B5.out.cell 2
    have d3 : wz.cell? ⟨gz, 3, none⟩ = some (.int .i64 s3) := B5.out.cell 3
    have e0 : wz.cell? ⟨gt, 0, none⟩ = some (.int .i64 s0) := B6.out.cell 0
    have e1 : wz.cell? ⟨gt, 1, none⟩ = some (.int .i64 s1) := B6.out.cell 1
    have e2 : wz.cell? ⟨gt, 2, none⟩ = some (.int .i64 s2) := B6.out.cell 2
    have e3 : wz.cell? ⟨gt, 3, none⟩ = some (.int .i64 s3) := B6.out.cell 3
    clear hgz
    have hq4 := fun w1 => eq4 w1 s0 s1 s2 s3
    go_wp2_with (first | (go_at_call 11; (with_reducible refine (awake_calls _).mono ?_); rintro e w5 ⟨rfl, hb⟩))
    go_ret
    exact ⟨rfl, HB0.out.trans ((H6.out.trans (hb.mono H6.out.size)).mono HB0.out.size)⟩
  · subst h2
    rw [h1]
    have hkI : (kg : Int) < 4 := by omega
    have hk0 : (0 : Int) ≤ (kg : Int) := by omega
    have HC : Hid (y.1.tot 0 = x.tot 0) := Lib.hid h3
    obtain ⟨z0, z1⟩ := HTG.out kg hg4
    have cz : w3.cell? ⟨gt, kg, none⟩ = some (.int .i64 (x.tot (2 + kg))) := by rw [B3.out.cell, hT'.out]; exact four_at _ hg4
    have fz := B3.out.frozen kg
    obtain ⟨T2, hT2⟩ : ∃ T2 : Nat → Int, Hid (T2 = fun q => if q = kg then x.tot (2 + kg) - a.n else T' q) := ⟨_, Lib.hid rfl⟩
    have HTT : Hid (∀ q, q < 4 → y.1.tot (2 + q) = T2 q) := Lib.hid fun q hq => by
      rw [h4 q hq, hT2.out, hT'.out]
      by_cases e : q = kg
      · subst e; rw [if_pos rfl]; simp
      · rw [if_neg e]; simp [e]
    have HS : Hid (∀ v, v = x.tot (2 + kg) - a.n → CS wb (w3.setCell ⟨gt, kg, none⟩ (.int .i64 v)) g gl gt y.1 T2) := Lib.hid fun v hv => by
      have hb := B3.out.set_ kg (.int .i64 v)
      rw [four_set T' hg4, hv, ← hT2.out] at hb
      refine ⟨⟨⟨(H3.out.at_.head).far HGG.out _, H3.out.at_.list.far hgt2.out.symm _, H3.out.at_.ne, H3.out.at_.ok⟩, H3.out.head, H3.out.list, H3.out.all.setCell (p := ⟨gt, kg, none⟩) HGTB.out _⟩, by rw [hv]; exact hb⟩
    generalize x.tot 0 = tc at t0 t1 HC ⊢
    generalize x.tot (2 + kg) = tg at cz z0 z1 HS
    generalize a.n = an at b4 HS n0 n1
    clear h3 h4 HACT h1 y0 y1
    go_upto_region 15 with (first
      | (go_at_call 10; (with_reducible refine (HK.out _).mono ?_); rintro e w1 ⟨rfl, rfl⟩))
    refine wp_region_still_tail 12 (by kernel_rfl) (by kernel_rfl) ?_
    simp only [List.take_succ_cons, List.take_zero, List.drop_succ_cons, List.drop_zero]
    repeat (first | still_step | (still_call ((HG.out _).mono fun _ _ h => ⟨h.1, h.2.symm⟩)))
    try refine wpStill_nil ?_
    change wpList _ _ _ _ _ w3.drew
    go_upto_region 16 with (fail)
    generalize hwq : World.drew _ = wq
    have CQ : Hid (CS wb wq g gl gt y.1 T2) := Lib.hid (by rw [← hwq]; exact (HS.out _ (by omega)).drew)
    clear hwq cz fz HS B3 Bb3 H3
    have HE := Lib.hid (cons_end _ g gl gt _ _ _ (CQ.out) (HTT.out))
    rw [HC.out] at HE
    unfold four at HE
    obtain ⟨s0, hs0⟩ : ∃ s, T2 0 = s := ⟨_, rfl⟩
    obtain ⟨s1, hs1⟩ : ∃ s, T2 1 = s := ⟨_, rfl⟩
    obtain ⟨s2, hs2⟩ : ∃ s, T2 2 = s := ⟨_, rfl⟩
    obtain ⟨s3, hs3⟩ : ∃ s, T2 3 = s := ⟨_, rfl⟩
    rw [hs0, hs1, hs2, hs3] at HE
    have HF : Hid (four T2 = #[.int .i64 s0, .int .i64 s1, .int .i64 s2, .int .i64 s3]) := Lib.hid (by unfold four; rw [hs0, hs1, hs2, hs3])
    clear hs0 hs1 hs2 hs3
    go_upto_region 17 with (first
      | (go_at_call 10; (with_reducible refine (HK.out _).mono ?_); rintro e w1 ⟨rfl, rfl⟩)
      | (go_at_call 8; (refine HE.out.mono ?_); rintro e w4 ⟨rfl, h, hb⟩; have C4 := Lib.hid h; have hb4 := Lib.hid hb; clear h hb))
    obtain ⟨gz, hgz⟩ : ∃ gz, gz = w4.heap.size := ⟨_, rfl⟩
    have B5 : Hid (Blk (w4.alloc (.cells #[.int .i64 s0, .int .i64 s1, .int .i64 s2, .int .i64 s3] 27)) gz 27 #[.int .i64 s0, .int .i64 s1, .int .i64 s2, .int .i64 s3]) := Lib.hid (by rw [hgz]; exact Blk.new _ _ _)
    have B6 : Hid (Blk (w4.alloc (.cells #[.int .i64 s0, .int .i64 s1, .int .i64 s2, .int .i64 s3] 27)) gt 27 #[.int .i64 s0, .int .i64 s1, .int .i64 s2, .int .i64 s3]) := Lib.hid (by rw [← HF.out]; exact C4.out.blk.alloc _)
    have H6 : Hid (Below wb.heap.size wb (w4.alloc (.cells #[.int .i64 s0, .int .i64 s1, .int .i64 s2, .int .i64 s3] 27))) := Lib.hid (C4.out.lw.all.alloc C4.out.lw.all.size _)
    rw [← hgz]
    generalize World.alloc w4 _ = wz at B5 B6 H6 ⊢
    have d0 : wz.cell? ⟨gz, 0, none⟩ = some (.int .i64 s0) := B5.out.cell 0
    have d1 : wz.cell? ⟨gz, 1, none⟩ = some (.int .i64 s1) := B5.out.cell 1
    have d2 : wz.cell? ⟨gz, 2, none⟩ = some (.int .i64 s2) := B5.out.cell 2
    have d3 : wz.cell? ⟨gz, 3, none⟩ = some (.int .i64 s3) := B5.out.cell 3
    have e0 : wz.cell? ⟨gt, 0, none⟩ = some (.int .i64 s0) := B6.out.cell 0
    have e1 : wz.cell? ⟨gt, 1, none⟩ = some (.int .i64 s1) := B6.out.cell 1
    have e2 : wz.cell? ⟨gt, 2, none⟩ = some (.int .i64 s2) := B6.out.cell 2
    have e3 : wz.cell? ⟨gt, 3, none⟩ = some (.int .i64 s3) := B6.out.cell 3
    clear hgz
    have hq4 := fun w1 => eq4 w1 s0 s1 s2 s3
    go_wp2_with (first | (go_at_call 11; (with_reducible refine (awake_calls _).mono ?_); rintro e w5 ⟨rfl, hb⟩))
    go_ret
    exact ⟨rfl, HB0.out.trans ((H6.out.trans (hb.mono H6.out.size)).mono HB0.out.size)⟩
  · have n0 : ((k : Int) == 0) = false := by simp; omega
    have n1 : ((k : Int) == 1) = false := by simp; omega
    have n2 : ((k : Int) == 2) = false := by simp; omega
    have n3 : ((k : Int) == 3) = false := by simp; omega
    rw [h1]
    have HTT : Hid (∀ q, q < 4 → y.1.tot (2 + q) = T' q) := Lib.hid fun q hq => by rw [h4 q hq, hT'.out]
    have HC : Hid (y.1.tot 0 = x.tot 0) := Lib.hid h3
    generalize x.tot 0 = tc at t0 t1 HC ⊢
    clear h3 h4 HACT h1 h2 y0 y1
    have HE := Lib.hid (cons_end _ g gl gt _ _ _ (⟨H3.out, B3.out⟩) (HTT.out))
    rw [HC.out] at HE
    unfold four at HE
    obtain ⟨s0, hs0⟩ : ∃ s, T' 0 = s := ⟨_, rfl⟩
    obtain ⟨s1, hs1⟩ : ∃ s, T' 1 = s := ⟨_, rfl⟩
    obtain ⟨s2, hs2⟩ : ∃ s, T' 2 = s := ⟨_, rfl⟩
    obtain ⟨s3, hs3⟩ : ∃ s, T' 3 = s := ⟨_, rfl⟩
    rw [hs0, hs1, hs2, hs3] at HE
    have HF : Hid (four T' = #[.int .i64 s0, .int .i64 s1, .int .i64 s2, .int .i64 s3]) := Lib.hid (by unfold four; rw [hs0, hs1, hs2, hs3])
    clear hs0 hs1 hs2 hs3
    go_upto_region 17 with (first
      | (go_at_call 10; (with_reducible refine (HK.out _).mono ?_); rintro e w1 ⟨rfl, rfl⟩)
      | (go_at_call 8; (refine HE.out.mono ?_); rintro e w4 ⟨rfl, h, hb⟩; have C4 := Lib.hid h; have hb4 := Lib.hid hb; clear h hb))
    obtain ⟨gz, hgz⟩ : ∃ gz, gz = w4.heap.size := ⟨_, rfl⟩
    have B5 : Hid (Blk (w4.alloc (.cells #[.int .i64 s0, .int .i64 s1, .int .i64 s2, .int .i64 s3] 27)) gz 27 #[.int .i64 s0, .int .i64 s1, .int .i64 s2, .int .i64 s3]) := Lib.hid (by rw [hgz]; exact Blk.new _ _ _)
    have B6 : Hid (Blk (w4.alloc (.cells #[.int .i64 s0, .int .i64 s1, .int .i64 s2, .int .i64 s3] 27)) gt 27 #[.int .i64 s0, .int .i64 s1, .int .i64 s2, .int .i64 s3]) := Lib.hid (by rw [← HF.out]; exact C4.out.blk.alloc _)
    have H6 : Hid (Below wb.heap.size wb (w4.alloc (.cells #[.int .i64 s0, .int .i64 s1, .int .i64 s2, .int .i64 s3] 27))) := Lib.hid (C4.out.lw.all.alloc C4.out.lw.all.size _)
    rw [← hgz]
    generalize World.alloc w4 _ = wz at B5 B6 H6 ⊢
    have d0 : wz.cell? ⟨gz, 0, none⟩ = some (.int .i64 s0) := B5.out.cell 0
    have d1 : wz.cell? ⟨gz, 1, none⟩ = some (.int .i64 s1) := B5.out.cell 1
    have d2 : wz.cell? ⟨gz, 2, none⟩ = some (.int .i64 s2) := B5.out.cell 2
    have d3 : wz.cell? ⟨gz, 3, none⟩ = some (.int .i64 s3) := B5.out.cell 3
    have e0 : wz.cell? ⟨gt, 0, none⟩ = some (.int .i64 s0) := B6.out.cell 0
    have e1 : wz.cell? ⟨gt, 1, none⟩ = some (.int .i64 s1) := B6.out.cell 1
    have e2 : wz.cell? ⟨gt, 2, none⟩ = some (.int .i64 s2) := B6.out.cell 2
    have e3 : wz.cell? ⟨gt, 3, none⟩ = some (.int .i64 s3) := B6.out.cell 3
    clear hgz
    have hq4 := fun w1 => eq4 w1 s0 s1 s2 s3
    go_wp2_with (first | (go_at_call 11; (with_reducible refine (awake_calls _).mono ?_); rintro e w5 ⟨rfl, hb⟩))
    go_ret
    exact ⟨rfl, HB0.out.trans ((H6.out.trans (hb.mono H6.out.size)).mono HB0.out.size)⟩
end Go.Proofs.Ythhjockofihohaa
