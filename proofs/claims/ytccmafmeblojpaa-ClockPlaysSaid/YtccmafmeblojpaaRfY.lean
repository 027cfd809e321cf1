/- The reference's Bytes. -/
import Derived.Test.YtccmafmeblojpaaRfS
namespace Go.Proofs.Ytccmafmeblojpaa
open Go.RowKit
set_option linter.unusedVariables false
set_option linter.unusedSimpArgs false
set_option maxHeartbeats 16000000 in
set_option maxRecDepth 20000 in
theorem rbytes_calls (w : World) (a : Auc) (A : Option Addr) (XS : List (Option Addr × Nat)) (n c : Nat) (hB : Beside a n) (hn : XS.length = n) (hcn : n ≤ c) (h : RA A XS a w) :
    Calls Try.prog 44 #[rval a A n c] w fun e w' => e = .returned (.string a.bytes) ∧ Below w.heap.size w w' := by
  have H := Lib.hid h
  have HN := Lib.hid hn
  have hp := hB.pos
  have hfw := hB.few
  have hround := Lib.hid hB.round
  have hok := Lib.hid hB.ok
  obtain ⟨m, hm⟩ : ∃ m, Hid (a.l.length = m) := ⟨_, Lib.hid rfl⟩
  have hm16 := hB.ok.len.2
  have hm1 := hB.ok.len.1
  rw [hm.out] at hm16 hm1
  have hb0 : Hid (Below w.heap.size w (w.alloc (.cells #[.int .i64 a.supply, .int .i64 a.start, .int .i64 a.step, .int .i64 a.state, .slice A n c] 56))) := Lib.hid ((Below.refl _ _).alloc (Nat.le_refl _) _)
  have B0 : Hid (Blk (w.alloc (.cells #[.int .i64 a.supply, .int .i64 a.start, .int .i64 a.step, .int .i64 a.state, .slice A n c] 56)) w.heap.size 56 #[.int .i64 a.supply, .int .i64 a.start, .int .i64 a.step, .int .i64 a.state, .slice A n c]) := Lib.hid (Blk.new w 56 #[.int .i64 a.supply, .int .i64 a.start, .int .i64 a.step, .int .i64 a.state, .slice A n c])
  obtain ⟨i1, hi1, hy0, hy1, hy2⟩ := info_parts info_int
  have HI1 := Lib.hid hi1
  have HY0 := Lib.hid hy0
  have HY1 := Lib.hid hy1
  have HY2 := Lib.hid hy2
  have HNow := Lib.hid (fun wx (hx : RA A XS a wx) => rnow_calls wx a A XS n c hn hp hfw hx)
  have HWas := Lib.hid (fun wx (hx : RA A XS a wx) (i : Nat) hi => rwas_calls wx a A XS n c hB hn hx i hi)
  have HRow : Hid (∀ wx, RA A XS a wx → IRow wx (XS.getD (n - 1) (none, 0)).1 a.nowl) := Lib.hid fun wx hx => by
    have h4 := hx.now
    rwa [hn] at h4
  obtain ⟨LX, hLX⟩ : ∃ LX, Hid (XS.getD (n - 1) (none, 0) = LX) := ⟨_, Lib.hid rfl⟩
  rw [hm.out, hLX.out] at HNow
  rw [hLX.out] at HRow
  rw [hm.out] at HWas
  obtain ⟨X1, X2⟩ := LX
  simp only at HNow HRow
  obtain ⟨nb, no, rfl⟩ := (HRow.out w h).some (i := 0) (by rw [Auc.nowl_length, hm.out]; exact hm1)
  have hel : Hid (∀ wx i, i < m → Below w.heap.size w wx → wx.cell? ⟨nb, no + i, none⟩ = some (.int .i64 (a.l.getD i (0, 0)).2)) := Lib.hid fun wx i hi hb => by
    have hx := (HRow.out w h).below hb
    rw [← Auc.nowl_at a (by rw [hm.out]; exact hi)]
    exact IRow.cell hx (by rw [Auc.nowl_length, hm.out]; exact hi)
  clear h hB hn hi1 hy0 hy1 hy2 hp hfw hcn hm1
  unfold rval at HNow HWas
  unfold rval
  go_enter Try.func44, Try.ntmps44
  go_upto_region 1 with (fail)
  obtain ⟨g1, hg1⟩ : ∃ g1, w.heap.size = g1 := ⟨_, rfl⟩
  rw [hg1] at B0 ⊢
  clear hg1
  generalize World.alloc w _ = wy at hb0 B0 ⊢
  have HRA : Hid (∀ wx, Below wy.heap.size wy wx → RA A XS a wx) := Lib.hid fun wx hb => H.out.below (below_next hb0.out hb)
  have HXc : Hid (∀ wx : World, Below wy.heap.size wy wx → (wx.cell? ⟨g1, 0, none⟩ = some (.int .i64 a.supply) ∧ wx.cell? ⟨g1, 1, none⟩ = some (.int .i64 a.start) ∧ wx.cell? ⟨g1, 2, none⟩ = some (.int .i64 a.step) ∧ wx.cell? ⟨g1, 3, none⟩ = some (.int .i64 a.state) ∧ wx.cell? ⟨g1, 4, none⟩ = some (.slice A n c))) := Lib.hid fun wx hb => by
    have b0 := B0.out.below hb B0.out.lt
    exact ⟨b0.cell 0, b0.cell 1, b0.cell 2, b0.cell 3, b0.cell 4⟩
  have Hd0 : Hid (Below wy.heap.size wy wy.drew) := Lib.hid (Below.refl _ _).drew
  obtain ⟨P, hP⟩ : ∃ P, Hid (P = [a.supply, a.start, a.step, (n : Int), a.state, (m : Int)]) := ⟨_, Lib.hid rfl⟩
  have hnew : Hid (∀ wx : World, Mine wy (wx.alloc (.cells #[.int .i64 a.supply, .int .i64 a.start, .int .i64 a.step, .int .i64 (n : Int), .int .i64 a.state, .int .i64 (m : Int)] 3)) 1 (.slice (some ⟨wx.heap.size, 0, none⟩) 6 6) 6 (icells P) ∨ ¬ wy.heap.size ≤ wx.heap.size) := Lib.hid fun wx => by
    by_cases hs : wy.heap.size ≤ wx.heap.size
    · left
      rw [hP.out]
      exact Mine.fresh ⟨_, _, heap_alloc_new wx _, rfl, fun j _ => by rw [← Array.getElem?_toList]; rfl⟩ rfl (Nat.le_refl _) (by unfold maxLen; omega) hs
    · exact .inr hs
  go_region_held3 (fun wx => (wx.cell? ⟨g1, 0, none⟩ = some (.int .i64 a.supply) ∧ wx.cell? ⟨g1, 1, none⟩ = some (.int .i64 a.start) ∧ wx.cell? ⟨g1, 2, none⟩ = some (.int .i64 a.step) ∧ wx.cell? ⟨g1, 3, none⟩ = some (.int .i64 a.state) ∧ wx.cell? ⟨g1, 4, none⟩ = some (.slice A n c)))
    (first | (with_reducible exact HXc.out _ Hd0.out) | (with_reducible exact HXc.out _ hb1.out) | (with_reducible exact HXc.out _ (hb1.out.alloc hb1.out.size _)) | fail)
    (first
      | (go_at_call 40; (with_reducible refine (HNow.out _ (HRA.out _ Hd0.out)).mono ?_); rintro e w1 ⟨rfl, hh⟩; have hb1 := Lib.hid (below_next Hd0.out hh); clear hh))
  have hM2 : Hid (Mine wy (w1.alloc (.cells #[.int .i64 a.supply, .int .i64 a.start, .int .i64 a.step, .int .i64 (n : Int), .int .i64 a.state, .int .i64 (m : Int)] 3)) 1 (.slice (some ⟨w1.heap.size, 0, none⟩) 6 6) 6 (icells P)) := Lib.hid ((hnew.out w1).elim id fun hh => absurd hb1.out.size hh)
  have hb2 : Hid (Below wy.heap.size wy (w1.alloc (.cells #[.int .i64 a.supply, .int .i64 a.start, .int .i64 a.step, .int .i64 (n : Int), .int .i64 a.state, .int .i64 (m : Int)] 3))) := Lib.hid (hb1.out.alloc hb1.out.size _)
  generalize w1.heap.size = gs at hM2 ⊢
  generalize World.alloc w1 _ = w2 at hM2 hb2 ⊢
  clear hnew
  go_wp2
  go_loopg [3, 4] (m + 1) (fun gk s3 s4 wr => ∃ i L lc, gk = m + 1 - i ∧ i ≤ m ∧ s4 = .int .i64 (i : Int) ∧ s3 = .slice L (6 + 2 * i) lc ∧ Hid (Mine wy wr 1 (.slice L (6 + 2 * i) lc) (6 + 2 * i) (icells (P ++ (a.l.take i).flatMap fun p => [p.1, p.2]))) ∧ Hid (Below wy.heap.size wy wr))
  case atStart => exact ⟨0, _, 6, rfl, Nat.zero_le _, rfl, rfl, by simpa using hM2, hb2⟩
  case round =>
    clear hM2 hb2 hb1
    obtain ⟨i, L, lc, rfl, hi, rfl, rfl, hM, hb⟩ := hrel
    have i0 : (0 : Int) ≤ (i : Int) := by omega
    obtain ⟨c0, c1, c2, c3, c4⟩ := HXc.out wr hb.out
    by_cases hlt : i < m
    · have hltI : (i : Int) < (m : Int) := by omega
      have hl : i < a.l.length := by rw [hm.out]; exact hlt
      have hgs : Hid (((a.l.take (i + 1)).flatMap fun p => [p.1, p.2]) = ((a.l.take i).flatMap fun p => [p.1, p.2]) ++ [(a.l.getD i (0, 0)).1, (a.l.getD i (0, 0)).2]) := Lib.hid (by
        rw [List.take_add_one, List.flatMap_append, List.getD_eq_getElem?_getD, List.getElem?_eq_getElem hl]; simp)
      have HEl := Lib.hid (fun wx hh => hel.out wx i hlt (below_next hb0.out hh))
      have HWs := Lib.hid (fun wx hh => HWas.out wx (HRA.out wx hh) i hlt)
      have HWx : Hid (a.wasl.getD i 0 = (a.l.getD i (0, 0)).1) := Lib.hid (Auc.wasl_at a hl)
      rw [HWx.out] at HWs
      generalize (a.l.getD i (0, 0)).1 = p1 at HWs hgs
      generalize (a.l.getD i (0, 0)).2 = p2 at HEl hgs
      obtain ⟨k, hk⟩ : ∃ k, Hid (6 + 2 * i = k) := ⟨_, Lib.hid rfl⟩
      have hk40 : k ≤ 40 := by rw [← hk.out]; omega
      rw [hk.out] at hM ⊢
      have hA1 : Hid (k + 2 ≤ maxLen) := Lib.hid (by unfold maxLen; omega)
      have hA2 : Hid ((k + 2) * 8 ≤ 140737488355328) := Lib.hid (by omega)
      have hA3 : Hid (∀ u ∈ [Value.int .i64 p1, Value.int .i64 p2], u.oneCell' = true) := Lib.hid (by simp [Value.oneCell'])
      clear hl
      go_upto_region 5 with (first
        | (go_at_call 40; (with_reducible refine (HNow.out _ (HRA.out _ hb.out)).mono ?_); rintro e w1 ⟨rfl, hh⟩; have hM1 := Lib.hid (hM.out.below hh); have hb1 := Lib.hid (below_next hb.out hh); clear hh))
      clear c0 c1 c2 c3 c4
      have Hd2 : Hid (Below wy.heap.size wy w1.drew) := Lib.hid (below_draw hb1.out 1)
      have HMd := Lib.hid hM1.out.drew
      have HSx : Hid (∀ wx : World, Below wy.heap.size wy wx → ((wx.cell? ⟨g1, 0, none⟩ = some (.int .i64 a.supply) ∧ wx.cell? ⟨g1, 1, none⟩ = some (.int .i64 a.start) ∧ wx.cell? ⟨g1, 2, none⟩ = some (.int .i64 a.step) ∧ wx.cell? ⟨g1, 3, none⟩ = some (.int .i64 a.state) ∧ wx.cell? ⟨g1, 4, none⟩ = some (.slice A n c)) ∧ wx.cell? ⟨nb, no + i, none⟩ = some (.int .i64 p2))) := Lib.hid fun wx hh => ⟨HXc.out wx hh, HEl.out wx hh⟩
      go_region_held3 (fun wx => ((wx.cell? ⟨g1, 0, none⟩ = some (.int .i64 a.supply) ∧ wx.cell? ⟨g1, 1, none⟩ = some (.int .i64 a.start) ∧ wx.cell? ⟨g1, 2, none⟩ = some (.int .i64 a.step) ∧ wx.cell? ⟨g1, 3, none⟩ = some (.int .i64 a.state) ∧ wx.cell? ⟨g1, 4, none⟩ = some (.slice A n c)) ∧ wx.cell? ⟨nb, no + i, none⟩ = some (.int .i64 p2)))
        (first | (with_reducible exact HSx.out _ Hd2.out) | (with_reducible exact HSx.out _ hb3.out) | (with_reducible exact HSx.out _ hb4.out) | (with_reducible exact HSx.out _ (hb4.out.alloc hb4.out.size _)) | (with_reducible exact HSx.out _ hb5.out))
        (first
          | (go_at_call 43; (first
            | ((with_reducible refine (HWs.out _ hb3.out).mono ?_); rintro e w4 ⟨rfl, hh⟩; have hM4 := Lib.hid (hM3.out.below hh); have hb4 := Lib.hid (below_next hb3.out hh); clear hh)
            | ((with_reducible refine (HWs.out _ Hd2.out).mono ?_); rintro e w3 ⟨rfl, hh⟩; have hM3 := Lib.hid (HMd.out.below hh); have hb3 := Lib.hid (below_next Hd2.out hh); clear hh)))
          | (go_at_call 40; (first
            | ((with_reducible refine (HNow.out _ (HRA.out _ hb3.out)).mono ?_); rintro e w4 ⟨rfl, hh⟩; have hM4 := Lib.hid (hM3.out.below hh); have hb4 := Lib.hid (below_next hb3.out hh); clear hh)
            | ((with_reducible refine (HNow.out _ (HRA.out _ Hd2.out)).mono ?_); rintro e w3 ⟨rfl, hh⟩; have hM3 := Lib.hid (HMd.out.below hh); have hb3 := Lib.hid (below_next Hd2.out hh); clear hh)))
          | (refine step_append_mine rfl (.tmp 29) (.tmp 38) 22 22 rfl 3 i1 (.int .i64 0) 8 Try.underlying22 HI1.out HY0.out HY1.out HY2.out rfl (by decide) rfl (hM4.out.alloc _) (hb4.out.alloc hb4.out.size _) _ 2 [.int .i64 p1, .int .i64 p2] rfl (src_new Try.underlying22 _ _ _ 2 2 rfl hA3.out) hA1.out hA2.out ?_; intro P2 pc2 w5 hd5 hh5; have hM5 := Lib.hid hd5; have hb5 := Lib.hid hh5; clear hd5 hh5))
      all_goals
        go_wp2
        go_roundg (m + 1 - (i + 1))
        case measure => omega
        case rel =>
          refine ⟨i + 1, P2, pc2, rfl, by omega, by go_num, by rw [← hk.out]; rfl, Lib.hid ?_, hb5⟩
          rw [hgs.out, ← List.append_assoc, icells_append, show 6 + 2 * (i + 1) = k + 2 from by rw [← hk.out]; omega]
          exact hM5.out
    · obtain rfl : m = i := by omega
      have hL : Hid (P ++ ((a.l.take m).flatMap fun p => [p.1, p.2]) = a.laid) := Lib.hid (by
        unfold Auc.laid
        rw [List.take_of_length_le (by rw [hm.out]; exact Nat.le_refl _), hP.out, hm.out, hround.out])
      rw [hL.out] at hM
      have hlb := laid_bound hok.out
      have hll := laid_length a
      rw [hm.out] at hll
      have hE : Hid (a.bytes = catN a.laid) := Lib.hid rfl
      obtain ⟨L5, hLe⟩ : ∃ L5, a.laid = L5 := ⟨_, rfl⟩
      rw [hLe] at hM hlb hll hE
      obtain ⟨k, hk⟩ : ∃ k, 6 + 2 * m = k := ⟨_, rfl⟩
      have hk40 : k ≤ 40 := by omega
      rw [hk] at hM hll ⊢
      have HL := Lib.hid hll
      have HLB := Lib.hid hlb
      clear hk hll hlb hLe hL hlt
      go_upto_region 6 with (first
        | (go_at_call 40; (with_reducible refine (HNow.out _ (HRA.out _ hb.out)).mono ?_); rintro e w1 ⟨rfl, hh⟩; have hM1 := Lib.hid (hM.out.below hh); have hb1 := Lib.hid (below_next hb.out hh); clear hh))
      have hR : Hid (IRow w1 L L5) := Lib.hid hM1.out.irow
      have hbw : Hid (Below w1.heap.size w1 w1) := Lib.hid (Below.refl _ _)
      clear c0 c1 c2 c3 c4 hM hb hM1
      go_wp2
      go_loopg [5, 6] (k + 1) (fun gk s5 s6 wr => ∃ j, gk = k + 1 - j ∧ j ≤ k ∧ s6 = .int .i64 ((j : Nat) : Int) ∧ s5 = .string (catN (L5.take j)) ∧ Hid (Below w1.heap.size w1 wr))
      case atStart => exact ⟨0, rfl, Nat.zero_le _, rfl, rfl, hbw⟩
      case round =>
        clear hbw
        obtain ⟨j, rfl, hj, rfl, rfl, hb⟩ := hrel
        have j0 : (0 : Int) ≤ (j : Int) := by omega
        by_cases hlt2 : j < k
        · have hltI2 : (j : Int) < (k : Int) := by omega
          have hkl : j < L5.length := by rw [HL.out]; exact hlt2
          obtain ⟨pb, po, rfl⟩ := hR.out.some hkl
          have ck : wr.cell? ⟨pb, po + j, none⟩ = some (.int .i64 (L5.getD j 0)) := by
            obtain ⟨b', o', e, h1, h2⟩ := Row.at_ hR.out hkl
            cases e; exact (below_cell hb.out h1).trans h2
          obtain ⟨v0, v1⟩ := HLB.out (L5.getD j 0) (by rw [List.getD_eq_getElem?_getD, List.getElem?_eq_getElem hkl]; exact List.getElem_mem hkl)
          have hsn : Hid (catN (L5.take (j + 1)) = catN (L5.take j) ++ strOf (num (L5.getD j 0).toNat)) := Lib.hid (by
            rw [← catN_snoc, List.take_add_one, List.getD_eq_getElem?_getD, List.getElem?_eq_getElem hkl]; rfl)
          obtain ⟨v, hv⟩ : ∃ v : Nat, L5.getD j 0 = (v : Int) := ⟨(L5.getD j 0).toNat, by omega⟩
          rw [hv] at ck v1 hsn
          rw [Int.toNat_natCast] at hsn
          have hsz : (catN (L5.take j)).size ≤ 320 := by
            have := catN_size (L5.take j) fun x hx => HLB.out x (List.mem_of_mem_take hx)
            rw [List.length_take] at this
            omega
          have hsz2 := strOf_size v (by omega)
          have HPu := Lib.hid (fun w => rnumber_calls w v (by omega))
          generalize catN (L5.take j) = s1 at hsn hsz ⊢
          generalize strOf (num v) = s2 at hsn hsz2 HPu
          have hszI : (s1.size : Int) + (s2.size : Int) ≤ 400 := by omega
          clear hkl hv v0
          go_wp2_with (first
            | (go_at_call 49; (with_reducible refine (HPu.out _).mono ?_); rintro e w6 ⟨rfl, hh⟩; have hb6 := Lib.hid (below_next hb.out hh); clear hh))
          go_roundg (k + 1 - (j + 1))
          case measure => omega
          case rel => exact ⟨j + 1, rfl, by omega, by go_num, by rw [hsn.out], hb6⟩
        · obtain rfl : k = j := by omega
          rw [List.take_of_length_le (by rw [HL.out]; exact Nat.le_refl _)]
          go_wp2
          go_ret
          exact ⟨by rw [hE.out]; rfl, below_next hb0.out (below_next hb1.out hb.out)⟩
end Go.Proofs.Ytccmafmeblojpaa
