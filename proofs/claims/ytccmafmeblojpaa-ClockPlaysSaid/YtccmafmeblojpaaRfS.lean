/- The reference's Sale. -/
import Derived.Test.YtccmafmeblojpaaDuo
namespace Go.Proofs.Ytccmafmeblojpaa
open Go.RowKit
set_option linter.unusedVariables false
set_option linter.unusedSimpArgs false
def RSold (w : World) (s : Int × List Int × Int) (e : Ending) (w' : World) : Prop := ∃ B k d, e = .returned (.tuple #[.int .i64 s.1, .slice B k d, .int .i64 s.2.2]) ∧ s.2.1.length = k ∧ IRow w' B s.2.1 ∧ Below w.heap.size w w'
theorem rep_snoc (i : Nat) : icells (List.replicate (i + 1) 0) = icells (List.replicate i 0) ++ [.int .i64 0] := by rw [List.replicate_succ', icells_append]; rfl
theorem gaps_snoc (a : Auc) {i : Nat} (h : i < a.l.length) : icells (a.gaps.take (i + 1)) = icells (a.gaps.take i) ++ [.int .i64 ((a.l.getD i (0, 0)).1 - (a.l.getD i (0, 0)).2)] := by
  have h2 : i < a.gaps.length := by unfold Auc.gaps; simpa using h
  rw [List.take_add_one, List.getElem?_eq_getElem h2, icells_append, ← Auc.gaps_at a h, List.getD_eq_getElem?_getD, List.getElem?_eq_getElem h2]; rfl
theorem Mine.at1 {w0 w : World} {A : Option Addr} {c n : Nat} {xs : List Value} (h : Mine w0 w 1 (.slice A n c) n xs) (h0 : 0 < n) : ∃ g o, A = some ⟨g, o, none⟩ ∧ w0.heap.size ≤ g := by
  obtain ⟨g, o, e, h1, _⟩ := h.store h0
  exact ⟨g, o, e, h1⟩
theorem Mine.put {w0 w : World} {g o c n : Nat} {xs : List Value} (h : Mine w0 w 1 (.slice (some ⟨g, o, none⟩) n c) n xs) {j : Nat} (hj : j < n) :
    w.cell? ⟨g, o + j, none⟩ = xs[j]? ∧ w.frozen? ⟨g, o + j, none⟩ = false ∧ ∀ u, Mine w0 (w.setCell ⟨g, o + j, none⟩ u) 1 (.slice (some ⟨g, o, none⟩) n c) n (xs.set j u) := by
  obtain ⟨g', o', e, _, h1, h2, h3⟩ := h.store hj
  cases e
  exact ⟨h1, h2, h3⟩
theorem Duo.put {w0 w : World} {g o c n1 n2 : Nat} {v2 : Value} {xs1 xs2 : List Value} (h : Duo w0 w (.slice (some ⟨g, o, none⟩) n1 c) n1 xs1 v2 n2 xs2) {j : Nat} (hj : j < n1) :
    w.cell? ⟨g, o + j, none⟩ = xs1[j]? ∧ w.frozen? ⟨g, o + j, none⟩ = false ∧ ∀ u, Duo w0 (w.setCell ⟨g, o + j, none⟩ u) (.slice (some ⟨g, o, none⟩) n1 c) n1 (xs1.set j u) v2 n2 xs2 := by
  obtain ⟨g', o', e, _, h1, h2, h3⟩ := h.set1 hj
  cases e
  exact ⟨h1, h2, h3⟩
theorem lay_put (T : List Int) {i : Nat} (h : i < T.length) : (icells (lay T i)).set i (.int .i64 (T.getD i 0)) = icells (lay T (i + 1)) := by rw [icells_set, lay_set _ h]
theorem zip_at {L M : List Int} {i : Nat} (h1 : i < L.length) (h2 : i < M.length) : (List.zipWith (· + ·) L M).getD i 0 = L.getD i 0 + M.getD i 0 := by
  rw [List.getD_eq_getElem?_getD (l := List.zipWith _ _ _), List.getElem?_zipWith, List.getD_eq_getElem?_getD, List.getD_eq_getElem?_getD, List.getElem?_eq_getElem h1, List.getElem?_eq_getElem h2]; rfl
set_option maxHeartbeats 16000000 in
set_option maxRecDepth 100000 in
theorem rsale_calls (w : World) (a : Auc) (A : Option Addr) (XS : List (Option Addr × Nat)) (n c : Nat) (hB : Beside a n) (hn : XS.length = n) (hcn : n ≤ c) (h : RA A XS a w) :
    Calls Try.prog 39 #[rval a A n c] w (RSold w a.sale) := by
  have H := Lib.hid h
  have HN := Lib.hid hn
  have hp := hB.pos
  have hfw := hB.few
  obtain ⟨m, hm⟩ : ∃ m, Hid (a.l.length = m) := ⟨_, Lib.hid rfl⟩
  have hm16 := hB.ok.len.2
  have hm1 := hB.ok.len.1
  rw [hm.out] at hm16 hm1
  have HE : Hid (a.sale = if a.state = 0 then (0, [], 3) else if a.state = 2 then (0, List.replicate a.l.length 0, 0) else if a.round = 1 ∨ a.supply - a.nowl.sum = 0 then (a.price, a.nowl, 0) else (a.price - a.step, List.zipWith (· + ·) a.nowl (Sh.shares (a.supply - a.nowl.sum) a.gaps), 0)) := Lib.hid rfl
  rw [hB.round] at HE
  have hb0 : Hid (Below w.heap.size w (w.alloc (.cells #[.int .i64 a.supply, .int .i64 a.start, .int .i64 a.step, .int .i64 a.state, .slice A n c] 56))) := Lib.hid ((Below.refl _ _).alloc (Nat.le_refl _) _)
  have B0 : Hid (Blk (w.alloc (.cells #[.int .i64 a.supply, .int .i64 a.start, .int .i64 a.step, .int .i64 a.state, .slice A n c] 56)) w.heap.size 56 #[.int .i64 a.supply, .int .i64 a.start, .int .i64 a.step, .int .i64 a.state, .slice A n c]) := Lib.hid (Blk.new w 56 #[.int .i64 a.supply, .int .i64 a.start, .int .i64 a.step, .int .i64 a.state, .slice A n c])
  obtain ⟨i1, hi1, hy0, hy1, hy2⟩ := info_parts info_int
  have HI1 := Lib.hid hi1
  have HY0 := Lib.hid hy0
  have HY1 := Lib.hid hy1
  have HY2 := Lib.hid hy2
  have HNow := Lib.hid (fun wx (hx : RA A XS a wx) => rnow_calls wx a A XS n c hn hp hfw hx)
  have HWas := Lib.hid (fun wx (hx : RA A XS a wx) (i : Nat) hi => rwas_calls wx a A XS n c hB hn hx i hi)
  have HSum : Hid (∀ wx, RA A XS a wx → Calls Try.prog 16 #[.slice (XS.getD (n - 1) (none, 0)).1 a.l.length (XS.getD (n - 1) (none, 0)).2] wx fun e w' => e = .returned (.int .i64 a.nowl.sum) ∧ ∃ k, w' = wx.drewN k) := Lib.hid fun wx hx => by
    have h4 := hx.now
    rw [hn] at h4
    have h5 := hB.ok.len.2
    exact refsum_calls wx _ _ _ a.nowl (Auc.nowl_length a) (by omega) (Auc.nowl_bound hB.ok) h4
  have HPr := Lib.hid (fun wx => rprice_calls wx a A n c hB)
  have HRow : Hid (∀ wx, RA A XS a wx → IRow wx (XS.getD (n - 1) (none, 0)).1 a.nowl) := Lib.hid fun wx hx => by
    have h4 := hx.now
    rwa [hn] at h4
  obtain ⟨LX, hLX⟩ : ∃ LX, Hid (XS.getD (n - 1) (none, 0) = LX) := ⟨_, Lib.hid rfl⟩
  rw [hm.out, hLX.out] at HNow HSum
  rw [hLX.out] at HRow
  rw [hm.out] at HWas HE
  obtain ⟨X1, X2⟩ := LX
  simp only at HNow HSum HRow
  obtain ⟨nb, no, rfl⟩ := (HRow.out w h).some (i := 0) (by rw [Auc.nowl_length, hm.out]; exact hm1)
  have hel : Hid (∀ wx i, i < m → Below w.heap.size w wx → wx.cell? ⟨nb, no + i, none⟩ = some (.int .i64 (a.l.getD i (0, 0)).2)) := Lib.hid fun wx i hi hb => by
    have hx := (HRow.out w h).below hb
    rw [← Auc.nowl_at a (by rw [hm.out]; exact hi)]
    exact IRow.cell hx (by rw [Auc.nowl_length, hm.out]; exact hi)
  have hbd : Hid (∀ i, i < m → 0 ≤ (a.l.getD i (0, 0)).1 ∧ (a.l.getD i (0, 0)).1 ≤ 1048576 ∧ 0 ≤ (a.l.getD i (0, 0)).2 ∧ (a.l.getD i (0, 0)).2 ≤ 1048576) := Lib.hid fun i hi => hB.ok.each _ (getD_mem_l (by rw [hm.out]; exact hi))
  have HBd := Lib.hid hB
  have hp' := Lib.hid hp
  have hm1' := Lib.hid hm1
  clear h hB hn hi1 hy0 hy1 hy2 hp hfw hcn hm1
  unfold rval at HNow HPr HWas
  unfold rval
  go_enter Try.func39, Try.ntmps39
  go_upto_region 1 with (fail)
  obtain ⟨g1, hg1⟩ : ∃ g1, w.heap.size = g1 := ⟨_, rfl⟩
  rw [hg1] at B0 ⊢
  clear hg1
  generalize World.alloc w _ = wy at hb0 B0 ⊢
  have HRA : Hid (∀ wx, Below wy.heap.size wy wx → RA A XS a wx) := Lib.hid fun wx hb => H.out.below (below_next hb0.out hb)
  have HXc : Hid (∀ wx : World, Below wy.heap.size wy wx → (wx.cell? ⟨g1, 0, none⟩ = some (.int .i64 a.supply) ∧ wx.cell? ⟨g1, 1, none⟩ = some (.int .i64 a.start) ∧ wx.cell? ⟨g1, 2, none⟩ = some (.int .i64 a.step) ∧ wx.cell? ⟨g1, 3, none⟩ = some (.int .i64 a.state) ∧ wx.cell? ⟨g1, 4, none⟩ = some (.slice A n c))) := Lib.hid fun wx hb => by
    have b0 := B0.out.below hb B0.out.lt
    exact ⟨b0.cell 0, b0.cell 1, b0.cell 2, b0.cell 3, b0.cell 4⟩
  obtain ⟨c0, c1, c2, c3, c4⟩ := HXc.out wy (Below.refl _ _)
  by_cases hs : a.state = 0
  · have E : Hid (a.sale = (0, [], 3)) := Lib.hid (by rw [HE.out, if_pos hs])
    rw [hs] at c3
    clear HE
    go_wp2
    go_ret3
    exact ⟨none, 0, 0, by rw [E.out]; rfl, by rw [E.out]; rfl, by rw [E.out]; exact .inl rfl, hb0.out⟩
  have hsB2 : (a.state == 0) = false := by simpa using hs
  have HE2 : Hid (a.sale = if a.state = 2 then (0, List.replicate m 0, 0) else if (n : Int) = 1 ∨ a.supply - a.nowl.sum = 0 then (a.price, a.nowl, 0) else (a.price - a.step, List.zipWith (· + ·) a.nowl (Sh.shares (a.supply - a.nowl.sum) a.gaps), 0)) := Lib.hid (by rw [HE.out, if_neg hs])
  have hs' := Lib.hid hs
  clear HE hs
  go_upto_region 4 with (fail)
  clear c0 c1 c2 c3 c4
  go_wp2
  go_loopg [5, 6, 7] (m + 1) (fun gk s5 s6 s7 wr => ∃ i G P gc pc, gk = m + 1 - i ∧ i ≤ m ∧ s7 = .int .i64 (i : Int) ∧ s5 = .slice G i gc ∧ s6 = .slice P i pc ∧ Hid (Duo wy wr (.slice G i gc) i (icells (List.replicate i 0)) (.slice P i pc) i (icells (a.gaps.take i))) ∧ Hid (Below wy.heap.size wy wr))
  case atStart => exact ⟨0, none, none, 0, 0, rfl, Nat.zero_le _, rfl, rfl, rfl, Lib.hid (Duo.empty _ _ _ _), Lib.hid (Below.refl _ _)⟩
  case round =>
    obtain ⟨i, G, P, gc, pc, rfl, hi, rfl, rfl, rfl, hD, hb⟩ := hrel
    have i0 : (0 : Int) ≤ (i : Int) := by omega
    obtain ⟨c0, c1, c2, c3, c4⟩ := HXc.out wr hb.out
    by_cases hlt : i < m
    · have hltI : (i : Int) < (m : Int) := by omega
      have hlt' := Lib.hid hlt
      obtain ⟨v0, v1, v2, v3⟩ := hbd.out i hlt
      have hgs := Lib.hid (gaps_snoc a (i := i) (by rw [hm.out]; exact hlt))
      have HEl := Lib.hid (fun wx hh => hel.out wx i hlt (below_next hb0.out hh))
      have HWs := Lib.hid (fun wx hh => HWas.out wx (HRA.out wx hh) i hlt)
      have HWx : Hid (a.wasl.getD i 0 = (a.l.getD i (0, 0)).1) := Lib.hid (Auc.wasl_at a (by rw [hm.out]; exact hlt))
      rw [HWx.out] at HWs
      generalize (a.l.getD i (0, 0)).1 = p1 at HWs hgs v0 v1
      generalize (a.l.getD i (0, 0)).2 = p2 at HEl hgs v2 v3
      have q : IntKind.i64.wrap (p1 - p2) = p1 - p2 := by rw [IntKind.wrap_i64]; omega
      have hA1 : Hid (i + 1 ≤ maxLen) := Lib.hid (by unfold maxLen; omega)
      have hA2 : Hid ((i + 1) * 8 ≤ 140737488355328) := Lib.hid (by omega)
      have hA3 : Hid (∀ x, ∀ u ∈ [Value.int .i64 x], u.oneCell' = true) := Lib.hid fun x => by simp [Value.oneCell']
      go_upto_region 8 with (first
        | (go_at_call 40; (with_reducible refine (HNow.out _ (HRA.out _ hb.out)).mono ?_); rintro e w1 ⟨rfl, hh⟩; have hD1 := Lib.hid (hD.out.below hh); have hb1 := Lib.hid (below_next hb.out hh); clear hh)
        | (at_builtin; (refine wpList_append_duo rfl (.tmp 24) (.tmp 25) 22 22 rfl 3 i1 (.int .i64 0) 8 Try.underlying22 HI1.out HY0.out HY1.out HY2.out rfl rfl (hD1.out.alloc _) (hb1.out.alloc hb1.out.size _) _ 1 [.int .i64 0] rfl (src_new Try.underlying22 _ _ _ 1 1 rfl (hA3.out _)) hA1.out hA2.out ?_); intro G2 gc2 w2 hd2 hh2; have hD2 := Lib.hid hd2; have hb2 := Lib.hid hh2; clear hd2 hh2))
      clear c0 c1 c2 c3 c4
      have Hd2 : Hid (Below wy.heap.size wy w2.drew) := Lib.hid (below_draw hb2.out 1)
      have HDd : Hid (Duo wy w2.drew (.slice G2 (i + 1) gc2) (i + 1) (icells (List.replicate i 0) ++ [.int .i64 0]) (.slice P i pc) i (icells (a.gaps.take i))) := Lib.hid hD2.out.drew
      have HSx : Hid (∀ wx : World, Below wy.heap.size wy wx → ((wx.cell? ⟨g1, 0, none⟩ = some (.int .i64 a.supply) ∧ wx.cell? ⟨g1, 1, none⟩ = some (.int .i64 a.start) ∧ wx.cell? ⟨g1, 2, none⟩ = some (.int .i64 a.step) ∧ wx.cell? ⟨g1, 3, none⟩ = some (.int .i64 a.state) ∧ wx.cell? ⟨g1, 4, none⟩ = some (.slice A n c)) ∧ wx.cell? ⟨nb, no + i, none⟩ = some (.int .i64 p2))) := Lib.hid fun wx hh => ⟨HXc.out wx hh, HEl.out wx hh⟩
      go_region_held3 (fun wx => ((wx.cell? ⟨g1, 0, none⟩ = some (.int .i64 a.supply) ∧ wx.cell? ⟨g1, 1, none⟩ = some (.int .i64 a.start) ∧ wx.cell? ⟨g1, 2, none⟩ = some (.int .i64 a.step) ∧ wx.cell? ⟨g1, 3, none⟩ = some (.int .i64 a.state) ∧ wx.cell? ⟨g1, 4, none⟩ = some (.slice A n c)) ∧ wx.cell? ⟨nb, no + i, none⟩ = some (.int .i64 p2)))
        (first | (with_reducible exact HSx.out _ Hd2.out) | (with_reducible exact HSx.out _ hb3.out) | (with_reducible exact HSx.out _ hb4.out) | (with_reducible exact HSx.out _ (hb4.out.alloc hb4.out.size _)) | (with_reducible exact HSx.out _ hb5.out))
        (first
          | (go_at_call 43; (first
            | ((with_reducible refine (HWs.out _ hb3.out).mono ?_); rintro e w4 ⟨rfl, hh⟩; have hD4 := Lib.hid (hD3.out.below hh); have hb4 := Lib.hid (below_next hb3.out hh); clear hh)
            | ((with_reducible refine (HWs.out _ Hd2.out).mono ?_); rintro e w3 ⟨rfl, hh⟩; have hD3 := Lib.hid (HDd.out.below hh); have hb3 := Lib.hid (below_next Hd2.out hh); clear hh)))
          | (go_at_call 40; (first
            | ((with_reducible refine (HNow.out _ (HRA.out _ hb3.out)).mono ?_); rintro e w4 ⟨rfl, hh⟩; have hD4 := Lib.hid (hD3.out.below hh); have hb4 := Lib.hid (below_next hb3.out hh); clear hh)
            | ((with_reducible refine (HNow.out _ (HRA.out _ Hd2.out)).mono ?_); rintro e w3 ⟨rfl, hh⟩; have hD3 := Lib.hid (HDd.out.below hh); have hb3 := Lib.hid (below_next Hd2.out hh); clear hh)))
          | (refine step_append_duo rfl (.tmp 27) (.tmp 37) 22 22 rfl 3 i1 (.int .i64 0) 8 Try.underlying22 HI1.out HY0.out HY1.out HY2.out rfl rfl (hD4.out.alloc _).swap (hb4.out.alloc hb4.out.size _) _ 1 [.int .i64 (p1 - p2)] rfl (src_new Try.underlying22 _ _ _ 1 1 rfl (hA3.out _)) hA1.out hA2.out ?_; intro P2 pc2 w5 hd5 hh5; have hD5 := Lib.hid hd5.swap; have hb5 := Lib.hid hh5; clear hd5 hh5))
      all_goals
        go_wp2
        go_roundg (m + 1 - (i + 1))
        case measure => omega
        case rel => exact ⟨i + 1, G2, P2, gc2, pc2, rfl, by omega, by go_num, rfl, rfl, Lib.hid (by rw [rep_snoc, hgs.out]; exact hD5.out), hb5⟩
    · obtain rfl : m = i := by omega
      have hgt : Hid (a.gaps.take m = a.gaps) := Lib.hid (List.take_of_length_le (by unfold Auc.gaps; rw [List.length_map, hm.out]; exact Nat.le_refl _))
      rw [hgt.out] at hD
      clear hlt
      go_upto_region 9 with (first
        | (go_at_call 40; (with_reducible refine (HNow.out _ (HRA.out _ hb.out)).mono ?_); rintro e w1 ⟨rfl, hh⟩; have hD1 := Lib.hid (hD.out.below hh); have hb1 := Lib.hid (below_next hb.out hh); clear hh))
      clear c0 c1 c2 c3 c4
      obtain ⟨c0, c1, c2, c3, c4⟩ := HXc.out w1 hb1.out
      by_cases hs2 : a.state = 2
      · have E : Hid (a.sale = (0, List.replicate m 0, 0)) := Lib.hid (by rw [HE2.out, if_pos hs2])
        rw [hs2] at c3
        clear HE2 hs2 hsB2
        go_wp2
        go_ret3
        exact ⟨G, m, gc, by rw [E.out]; rfl, by rw [E.out]; simp, by rw [E.out]; exact hD1.out.fst.irow, below_next hb0.out hb1.out⟩
      have hsB : (a.state == 2) = false := by simpa using hs2
      have HE3 : Hid (a.sale = if (n : Int) = 1 ∨ a.supply - a.nowl.sum = 0 then (a.price, a.nowl, 0) else (a.price - a.step, List.zipWith (· + ·) a.nowl (Sh.shares (a.supply - a.nowl.sum) a.gaps), 0)) := Lib.hid (by rw [HE2.out, if_neg hs2])
      have hst1 : a.state = 1 := by
        have h1 := HBd.out.ok.state
        have h2 := hs'.out
        omega
      have hsold : a.nowl.sum ≤ a.supply := HBd.out.fair.sold hst1
      have hsmb : 0 ≤ a.nowl.sum ∧ a.nowl.sum ≤ 16777216 := by
        have h1 := Auc.nows_bound HBd.out.ok.each
        have h2 := HBd.out.ok.len.2
        have h3 : a.nowl.sum = Auc.nows a.l := rfl
        omega
      obtain ⟨su0, su1⟩ := HBd.out.ok.supply
      obtain ⟨st0, st1⟩ := HBd.out.ok.step
      have hpb := HBd.out.ok.price
      have hpb0 : 0 ≤ a.price := by
        have := HBd.out.ok.start.1
        have := HBd.out.ok.lap.1
        show 0 ≤ a.start + (a.round - 1) * a.step
        omega
      obtain ⟨sm, hsm⟩ : ∃ sm, Hid (a.nowl.sum = sm) := ⟨_, Lib.hid rfl⟩
      rw [hsm.out] at HSum HE3 hsold hsmb
      obtain ⟨pr, hpr⟩ : ∃ pr, Hid (a.price = pr) := ⟨_, Lib.hid rfl⟩
      rw [hpr.out] at HPr HE3 hpb hpb0
      obtain ⟨lf, hlf⟩ : ∃ lf, Hid (a.supply - sm = lf) := ⟨_, Lib.hid rfl⟩
      rw [hlf.out] at HE3
      have q1 : IntKind.i64.wrap (a.supply - sm) = lf := by rw [IntKind.wrap_i64, ← hlf.out]; omega
      have hlf0 : Hid (0 ≤ lf ∧ lf ≤ 1048576) := Lib.hid (by rw [← hlf.out]; omega)
      have q2 : Hid (IntKind.i64.wrap (pr - a.step) = pr - a.step) := Lib.hid (by rw [IntKind.wrap_i64]; omega)
      clear HE2 hs2 hst1 hsold hsmb su0 su1 st0 st1 hpb hpb0
      have Hd1 : Hid (Below wy.heap.size wy w1.drew) := Lib.hid (below_draw hb1.out 1)
      go_upto_region 11 with (fail)
      go_region_held3 (fun wx => (wx.cell? ⟨g1, 0, none⟩ = some (.int .i64 a.supply) ∧ wx.cell? ⟨g1, 1, none⟩ = some (.int .i64 a.start) ∧ wx.cell? ⟨g1, 2, none⟩ = some (.int .i64 a.step) ∧ wx.cell? ⟨g1, 3, none⟩ = some (.int .i64 a.state) ∧ wx.cell? ⟨g1, 4, none⟩ = some (.slice A n c)))
        (first | (with_reducible exact HXc.out _ Hd1.out) | (with_reducible exact HXc.out _ hb2.out) | (with_reducible exact HXc.out _ hb3.out) | fail)
        (first
          | (go_at_call 40; (with_reducible refine (HNow.out _ (HRA.out _ Hd1.out)).mono ?_); rintro e w2 ⟨rfl, hh⟩; have hD2 := Lib.hid (hD1.out.drew.below hh); have hb2 := Lib.hid (below_next Hd1.out hh); clear hh)
          | (go_at_call 16; (with_reducible refine (HSum.out _ (HRA.out _ hb2.out)).mono ?_); rintro e w3 ⟨rfl, nd, hw3⟩; have hD3 : Hid (Duo wy w3 (.slice G m gc) m (icells (List.replicate m 0)) (.slice P m pc) m (icells a.gaps)) := Lib.hid (by rw [hw3]; exact hD2.out.below (below_draw (Below.refl _ _) nd)); have hb3 : Hid (Below wy.heap.size wy w3) := Lib.hid (by rw [hw3]; exact below_draw hb2.out nd); clear hw3))
      clear c0 c1 c2 c3 c4 q1
      obtain ⟨c0, c1, c2, c3, c4⟩ := HXc.out w3 hb3.out
      go_upto_region 14 with (first
        | (go_at_call 41; (with_reducible refine (HPr.out _).mono ?_); rintro e w5 ⟨rfl, hh⟩; have hD5 := Lib.hid (hD3.out.below hh); have hb5 := Lib.hid (below_next hb3.out hh); clear hh))
      clear c0 c1 c2 c3 c4
      obtain ⟨c0, c1, c2, c3, c4⟩ := HXc.out w5 hb5.out
      obtain ⟨go, oo, rfl, hgo⟩ := hD5.out.fst.at1 hm1'.out
      by_cases h1n : n = 1
      · have E : Hid (a.sale = (pr, a.nowl, 0)) := Lib.hid (by rw [HE3.out, if_pos (.inl (by omega))])
        have h1B : decide ((1 : Int) < (n : Int)) = false := by simp; omega
        have h1I : ¬ (1 : Int) < (n : Int) := by omega
        clear HE3 h1n
        go_wp2
        have hM5 : Hid (Mine wy w5 1 (.slice (some ⟨go, oo, none⟩) m gc) m (icells (lay a.nowl 0))) := Lib.hid (by rw [lay_zero, Auc.nowl_length, hm.out]; exact hD5.out.fst)
        clear c0 c1 c2 c3 c4
        go_loopg [13] (m + 1) (fun gk s13 wr => ∃ i, gk = m + 1 - i ∧ i ≤ m ∧ s13 = .int .i64 (i : Int) ∧ Hid (Mine wy wr 1 (.slice (some ⟨go, oo, none⟩) m gc) m (icells (lay a.nowl i))) ∧ Hid (Below wy.heap.size wy wr))
        case atStart => exact ⟨0, rfl, Nat.zero_le _, rfl, hM5, hb5⟩
        case round =>
          clear hM5 hb5
          obtain ⟨i, rfl, hi, rfl, hM, hb⟩ := hrel
          have i0 : (0 : Int) ≤ (i : Int) := by omega
          obtain ⟨c0, c1, c2, c3, c4⟩ := HXc.out wr hb.out
          by_cases hlt : i < m
          · have hltI : (i : Int) < (m : Int) := by omega
            have hil : i < a.nowl.length := by rw [Auc.nowl_length, hm.out]; exact hlt
            have hlp := Lib.hid (lay_put a.nowl hil)
            have HEl := Lib.hid (fun wx hh => hel.out wx i hlt (below_next hb0.out hh))
            rw [Auc.nowl_at a (by rw [hm.out]; exact hlt)] at hlp
            generalize (a.l.getD i (0, 0)).2 = p2 at HEl hlp
            have HP : Hid (∀ wx, Mine wy wx 1 (.slice (some ⟨go, oo, none⟩) m gc) m (icells (lay a.nowl i)) → ∃ x, wx.cell? ⟨go, oo + i, none⟩ = some x ∧ wx.frozen? ⟨go, oo + i, none⟩ = false ∧ Hid (Mine wy (wx.setCell ⟨go, oo + i, none⟩ (.int .i64 p2)) 1 (.slice (some ⟨go, oo, none⟩) m gc) m (icells (lay a.nowl (i + 1))))) := Lib.hid fun wx hx => by
              obtain ⟨k1, k2, k3⟩ := hx.put hlt
              obtain ⟨x, hx⟩ := lay_at a.nowl hil
              exact ⟨x, k1.trans hx, k2, Lib.hid (by rw [← hlp.out]; exact k3 _)⟩
            clear hil
            go_wp2_with (first
              | (go_at_call 40; (with_reducible refine (HNow.out _ (HRA.out _ hb.out)).mono ?_); rintro e w7 ⟨rfl, hh⟩; have hM7 := Lib.hid (hM.out.below hh); have hb7 := Lib.hid (below_next hb.out hh); clear hh; have k0 := HEl.out w7 hb7.out; obtain ⟨x, k1, k2, k3⟩ := HP.out w7 hM7.out))
            go_roundg (m + 1 - (i + 1))
            case measure => omega
            case rel => exact ⟨i + 1, rfl, by omega, by go_num, k3, Lib.hid (hb7.out.setCell (p := ⟨go, oo + i, none⟩) hgo _)⟩
          · obtain rfl : m = i := by omega
            have e := lay_all a.nowl
            rw [Auc.nowl_length, hm.out] at e
            rw [e] at hM
            clear e
            go_wp2
            go_ret3
            exact ⟨some ⟨go, oo, none⟩, m, gc, by rw [E.out]; rfl, by rw [E.out]; exact (Auc.nowl_length a).trans hm.out, by rw [E.out]; exact hM.out.irow, below_next hb0.out hb.out⟩
      have h1I : (1 : Int) < (n : Int) := by have := hp'.out; omega
      by_cases hl0 : lf = 0
      · have E : Hid (a.sale = (pr, a.nowl, 0)) := Lib.hid (by rw [HE3.out, if_pos (.inr hl0)])
        have hl0B : decide ((0 : Int) < lf) = false := by simp; omega
        have hl0I : ¬ (0 : Int) < lf := by omega
        have hlf' := Lib.hid hl0
        clear HE3 h1n hl0
        go_wp2
        have hM5 : Hid (Mine wy w5 1 (.slice (some ⟨go, oo, none⟩) m gc) m (icells (lay a.nowl 0))) := Lib.hid (by rw [lay_zero, Auc.nowl_length, hm.out]; exact hD5.out.fst)
        clear c0 c1 c2 c3 c4
        go_loopg [13] (m + 1) (fun gk s13 wr => ∃ i, gk = m + 1 - i ∧ i ≤ m ∧ s13 = .int .i64 (i : Int) ∧ Hid (Mine wy wr 1 (.slice (some ⟨go, oo, none⟩) m gc) m (icells (lay a.nowl i))) ∧ Hid (Below wy.heap.size wy wr))
        case atStart => exact ⟨0, rfl, Nat.zero_le _, rfl, hM5, hb5⟩
        case round =>
          clear hM5 hb5
          obtain ⟨i, rfl, hi, rfl, hM, hb⟩ := hrel
          have i0 : (0 : Int) ≤ (i : Int) := by omega
          obtain ⟨c0, c1, c2, c3, c4⟩ := HXc.out wr hb.out
          by_cases hlt : i < m
          · have hltI : (i : Int) < (m : Int) := by omega
            have hil : i < a.nowl.length := by rw [Auc.nowl_length, hm.out]; exact hlt
            have hlp := Lib.hid (lay_put a.nowl hil)
            have HEl := Lib.hid (fun wx hh => hel.out wx i hlt (below_next hb0.out hh))
            rw [Auc.nowl_at a (by rw [hm.out]; exact hlt)] at hlp
            generalize (a.l.getD i (0, 0)).2 = p2 at HEl hlp
            have HP : Hid (∀ wx, Mine wy wx 1 (.slice (some ⟨go, oo, none⟩) m gc) m (icells (lay a.nowl i)) → ∃ x, wx.cell? ⟨go, oo + i, none⟩ = some x ∧ wx.frozen? ⟨go, oo + i, none⟩ = false ∧ Hid (Mine wy (wx.setCell ⟨go, oo + i, none⟩ (.int .i64 p2)) 1 (.slice (some ⟨go, oo, none⟩) m gc) m (icells (lay a.nowl (i + 1))))) := Lib.hid fun wx hx => by
              obtain ⟨k1, k2, k3⟩ := hx.put hlt
              obtain ⟨x, hx⟩ := lay_at a.nowl hil
              exact ⟨x, k1.trans hx, k2, Lib.hid (by rw [← hlp.out]; exact k3 _)⟩
            clear hil
            go_wp2_with (first
              | (go_at_call 40; (with_reducible refine (HNow.out _ (HRA.out _ hb.out)).mono ?_); rintro e w7 ⟨rfl, hh⟩; have hM7 := Lib.hid (hM.out.below hh); have hb7 := Lib.hid (below_next hb.out hh); clear hh; have k0 := HEl.out w7 hb7.out; obtain ⟨x, k1, k2, k3⟩ := HP.out w7 hM7.out))
            go_roundg (m + 1 - (i + 1))
            case measure => omega
            case rel => exact ⟨i + 1, rfl, by omega, by go_num, k3, Lib.hid (hb7.out.setCell (p := ⟨go, oo + i, none⟩) hgo _)⟩
          · obtain rfl : m = i := by omega
            have e := lay_all a.nowl
            rw [Auc.nowl_length, hm.out] at e
            rw [e] at hM
            clear e
            go_wp2
            go_ret3
            exact ⟨some ⟨go, oo, none⟩, m, gc, by rw [E.out]; rfl, by rw [E.out]; exact (Auc.nowl_length a).trans hm.out, by rw [E.out]; exact hM.out.irow, below_next hb0.out hb.out⟩
      have hl0I : 0 < lf := by have := hlf0.out; omega
      have E : Hid (a.sale = (pr - a.step, List.zipWith (· + ·) a.nowl (Sh.shares lf a.gaps), 0)) := Lib.hid (by rw [HE3.out, if_neg (by omega)])
      have hr1 : 1 < a.round := by rw [HBd.out.round]; exact h1I
      have hgb : ∀ g ∈ a.gaps, 0 ≤ g ∧ g ≤ 1048576 := fun g hg => by
        obtain ⟨p, hp, rfl⟩ := List.mem_map.1 hg
        have h1 := HBd.out.ok.each p hp
        have h2 := HBd.out.fair.fall hr1 p hp
        omega
      have hns : lf ≤ a.gaps.sum := by
        have h1 := HBd.out.fair.more hr1
        have h2 := Auc.gaps_sum a.l
        have h3 : a.nowl.sum = Auc.nows a.l := rfl
        have h4 := hlf.out
        have h5 := hsm.out
        unfold Auc.gaps
        omega
      have hgl : a.gaps.length = m := by unfold Auc.gaps; rw [List.length_map]; exact hm.out
      have HSh := Lib.hid (fun wx (hx : IRow wx P a.gaps) => rshares_mine wx lf P m pc a.gaps hgl hm16 hgb hlf0.out hns hx)
      have hsl : Hid ((Sh.shares lf a.gaps).length = m) := Lib.hid (by rw [Sh.shares_length]; exact hgl)
      have hse : Hid (∀ i, 0 ≤ (Sh.shares lf a.gaps).getD i 0 ∧ (Sh.shares lf a.gaps).getD i 0 ≤ 2097152) := Lib.hid fun i => Sh.shares_el hlf0.out hgb (by rw [hgl]; exact hm16) i
      obtain ⟨SH, hSH⟩ : ∃ SH, Hid (Sh.shares lf a.gaps = SH) := ⟨_, Lib.hid rfl⟩
      rw [hSH.out] at HSh hsl hse E
      obtain ⟨T, hT⟩ : ∃ T, Hid (List.zipWith (· + ·) a.nowl SH = T) := ⟨_, Lib.hid rfl⟩
      have hTl : Hid (T.length = m) := Lib.hid (by rw [← hT.out, List.length_zipWith, Auc.nowl_length, hm.out, hsl.out, Nat.min_self])
      rw [hT.out] at E
      have q3 := q2.out
      have hM3 : Hid (Mine wy w5 1 (.slice (some ⟨go, oo, none⟩) m gc) m (icells (lay T 0))) := Lib.hid (by rw [lay_zero, hTl.out]; exact hD5.out.fst)
      have hlf1 := hlf0.out.1
      clear HE3 h1n hl0 hr1 hgb hns hgl
      go_upto_region 19 with (first
        | (go_at_call 13; (with_reducible refine (HSh.out _ hD5.out.snd.irow).mono ?_); rintro e w6 ⟨MB, md, rfl, hm6, hh⟩; have hD6 := Lib.hid (Duo.of hM3.out hb5.out.size hh hm6); have hb6 := Lib.hid (below_next hb5.out hh); clear hh hm6))
      clear c0 c1 c2 c3 c4 q3
      obtain ⟨mo, mq, rfl, -⟩ := hD6.out.snd.at1 hm1'.out
      go_loopg [13] (m + 1) (fun gk s13 wr => ∃ i, gk = m + 1 - i ∧ i ≤ m ∧ s13 = .int .i64 (i : Int) ∧ Hid (Duo wy wr (.slice (some ⟨go, oo, none⟩) m gc) m (icells (lay T i)) (.slice (some ⟨mo, mq, none⟩) m md) m (icells SH)) ∧ Hid (Below wy.heap.size wy wr))
      case atStart => exact ⟨0, rfl, Nat.zero_le _, rfl, hD6, hb6⟩
      case round =>
        clear hD6 hb6
        obtain ⟨i, rfl, hi, rfl, hDd, hb⟩ := hrel
        have i0 : (0 : Int) ≤ (i : Int) := by omega
        obtain ⟨c0, c1, c2, c3, c4⟩ := HXc.out wr hb.out
        by_cases hlt : i < m
        · have hltI : (i : Int) < (m : Int) := by omega
          have hil : i < T.length := by rw [hTl.out]; exact hlt
          have hlp := Lib.hid (lay_put T hil)
          have hTi : Hid (T.getD i 0 = (a.l.getD i (0, 0)).2 + SH.getD i 0) := Lib.hid (by
            rw [← hT.out, zip_at (by rw [Auc.nowl_length, hm.out]; exact hlt) (by rw [hsl.out]; exact hlt), Auc.nowl_at a (by rw [hm.out]; exact hlt)])
          have HEl := Lib.hid (fun wx hh => hel.out wx i hlt (below_next hb0.out hh))
          obtain ⟨-, -, v2, v3⟩ := hbd.out i hlt
          obtain ⟨v4, v5⟩ := hse.out i
          have hSe : Hid (∀ wx v n1 xs, Duo wy wx v n1 xs (.slice (some ⟨mo, mq, none⟩) m md) m (icells SH) → wx.cell? ⟨mo, mq + i, none⟩ = some (.int .i64 (SH.getD i 0))) := Lib.hid fun wx v n1 xs hx => by
            rw [(hx.swap.put hlt).1, icells_get _ (by rw [hsl.out]; exact hlt)]
          rw [hTi.out] at hlp
          generalize (a.l.getD i (0, 0)).2 = p2 at HEl hlp v2 v3
          generalize SH.getD i 0 = sh at hSe hlp v4 v5
          have HP : Hid (∀ wx, Duo wy wx (.slice (some ⟨go, oo, none⟩) m gc) m (icells (lay T i)) (.slice (some ⟨mo, mq, none⟩) m md) m (icells SH) → ∃ x, wx.cell? ⟨go, oo + i, none⟩ = some x ∧ wx.frozen? ⟨go, oo + i, none⟩ = false ∧ Hid (Duo wy (wx.setCell ⟨go, oo + i, none⟩ (.int .i64 p2)) (.slice (some ⟨go, oo, none⟩) m gc) m ((icells (lay T i)).set i (.int .i64 p2)) (.slice (some ⟨mo, mq, none⟩) m md) m (icells SH))) := Lib.hid fun wx hx => by
            obtain ⟨k1, k2, k3⟩ := hx.put hlt
            obtain ⟨x, hx⟩ := lay_at T hil
            exact ⟨x, k1.trans hx, k2, Lib.hid (k3 _)⟩
          have HP2 : Hid (∀ wx, Duo wy wx (.slice (some ⟨go, oo, none⟩) m gc) m ((icells (lay T i)).set i (.int .i64 p2)) (.slice (some ⟨mo, mq, none⟩) m md) m (icells SH) → wx.cell? ⟨go, oo + i, none⟩ = some (.int .i64 p2) ∧ wx.frozen? ⟨go, oo + i, none⟩ = false ∧ Hid (Duo wy (wx.drew.setCell ⟨go, oo + i, none⟩ (.int .i64 (p2 + sh))) (.slice (some ⟨go, oo, none⟩) m gc) m (icells (lay T (i + 1))) (.slice (some ⟨mo, mq, none⟩) m md) m (icells SH))) := Lib.hid fun wx hx => by
            obtain ⟨k1, k2, k3⟩ := hx.put hlt
            have k4 := (hx.drew.put hlt).2.2 (.int .i64 (p2 + sh))
            rw [List.set_set, hlp.out] at k4
            refine ⟨k1.trans ?_, k2, Lib.hid k4⟩
            obtain ⟨x, hx⟩ := lay_at T hil
            rw [List.getElem?_set_self (List.getElem?_eq_some_iff.1 hx).1]
          clear hil
          go_upto_region 22 with (first
            | (go_at_call 40; (with_reducible refine (HNow.out _ (HRA.out _ hb.out)).mono ?_); rintro e w7 ⟨rfl, hh⟩; have hD7 := Lib.hid (hDd.out.below hh); have hb7 := Lib.hid (below_next hb.out hh); clear hh; have k0 := HEl.out w7 hb7.out; obtain ⟨x, k1, k2, k3⟩ := HP.out w7 hD7.out))
          have hb8 : Hid (Below wy.heap.size wy (w7.setCell ⟨go, oo + i, none⟩ (.int .i64 p2))) := Lib.hid (hb7.out.setCell (p := ⟨go, oo + i, none⟩) hgo _)
          clear k0 k1 k2 c0 c1 c2 c3 c4
          generalize World.setCell w7 _ _ = w8 at k3 hb8 ⊢
          obtain ⟨y1, y2, y3⟩ := HP2.out w8 k3.out
          have y4 := hSe.out w8 _ _ _ k3.out
          have q4 : IntKind.i64.wrap (p2 + sh) = p2 + sh := by rw [IntKind.wrap_i64]; omega
          go_upto_region 23 with (fail)
          go_still_tail 12, (by kernel_rfl)
          change wpList _ _ _ _ _ w8.drew
          clear q4
          go_wp2
          go_roundg (m + 1 - (i + 1))
          case measure => omega
          case rel => exact ⟨i + 1, rfl, by omega, by go_num, y3, Lib.hid ((below_draw hb8.out 1).setCell (p := ⟨go, oo + i, none⟩) hgo _)⟩
        · obtain rfl : m = i := by omega
          have e := lay_all T
          rw [hTl.out] at e
          rw [e] at hDd
          clear e
          go_wp2
          go_ret3
          exact ⟨some ⟨go, oo, none⟩, m, gc, by rw [E.out]; rfl, by rw [E.out]; exact hTl.out, by rw [E.out]; exact hDd.out.fst.irow, below_next hb0.out hb.out⟩
end Go.Proofs.Ytccmafmeblojpaa
