/- The walk of CallPlays: a book answers whatever calls, and has the orders then, as the document says, call by call. -/
import Derived.Test.YtilbhnloelgpdaaStep
import Derived.Test.YtilbhnloelgpdaaLike
namespace Go.Proofs.Ytilbhnloelgpdaa
open Go.RowKit
set_option linter.unusedVariables false
set_option linter.unusedSimpArgs false
/-- Behind one call, in the caller's new box. -/
def Turned (W wr : World) (g gr : Nat) (B : Bk) (gt : Nat) (wc : World) : Prop :=
  ∃ A2 c2 gl2, Blk wc gt 53 #[.slice A2 B.l.length c2, .int .i64 B.next] ∧ Two wc g gl2 A2 B ∧ Below W.heap.size W wc ∧ wr.heap.size ≤ wc.heap.size ∧ wc.heap[gr]? = wr.heap[gr]? ∧ gl2 ≠ some gr ∧ (∀ k, gl2 = some k → W.heap.size ≤ k) ∧ (∀ bb off, A2 = some ⟨bb, off, none⟩ → 0 < B.l.length → bb ≠ gr)
set_option maxHeartbeats 16000000 in
set_option maxRecDepth 100000 in
theorem CallPlays_walk (W : World) (A : Option Addr) (len c : Nat) (L : List SAct) (hlen : L.length = len) (hlc : len ≤ c) (hcm : c ≤ maxLen) (h : SRow W A L) (id : Int) (_hid : (Lit.int .i64 id).wf = true) :
    Calls Try.prog 9 #[.slice A len c, .int .i64 id] W fun e w' => e = .returned (.bool true) ∧ Below W.heap.size W w' := by
  have H := Lib.hid h
  have hn := Lib.hid hlen
  have HNw := Lib.hid (Bw.new W)
  have HAw := Lib.hid (fun wx => awake_calls wx)
  have hz := Lib.hid (Bk.runTo_zero L)
  have hlenm : len ≤ 9223372036854775807 := by unfold maxLen at hcm; omega
  clear h hlen hlc hcm _hid
  go_enter Try.func9, Try.ntmps9
  go_upto_region 5 with (go_at_call 28; (with_reducible refine HNw.out.mono ?_); rintro e w1 ⟨g, rfl, gl, hat, hg0, hgl0, hb1⟩; have HT1 := Lib.hid hat; have hgg : Hid (W.heap.size ≤ g ∧ (∀ k, gl = some k → W.heap.size ≤ k)) := Lib.hid ⟨hg0, hgl0⟩; have HB1 := Lib.hid hb1; clear hat hg0 hgl0 hb1)
  have hbx : Hid (Below w1.heap.size w1 (w1.alloc (.cells #[.slice none 0 0, .int .i64 1] 53))) := Lib.hid ((Below.refl _ _).alloc (Nat.le_refl _) _)
  have BR := Lib.hid (Blk.new w1 53 #[.slice none 0 0, .int .i64 1])
  obtain ⟨gr, hgr⟩ : ∃ gr, Hid (w1.heap.size = gr) := ⟨_, Lib.hid rfl⟩
  have hgr0 : Hid (g ≠ gr ∧ gl ≠ some gr ∧ W.heap.size ≤ gr) := Lib.hid (by
    refine ⟨by have := HT1.out.lt; have := hgr.out; omega, fun e => ?_, by have := HB1.out.size; have := hgr.out; omega⟩
    obtain ⟨_, _, _, ho⟩ := HT1.out.box
    have := ho.lt e
    have := hgr.out
    omega)
  rw [hgr.out] at BR ⊢
  generalize World.alloc w1 _ = w2 at hbx BR ⊢
  have HTw : Hid (Two w2 g gl none Bk.fresh) := Lib.hid ⟨HT1.out.below hbx.out, ORow.nil _ _, fun bb off e => by cases e⟩
  have HB2 := Lib.hid (below_next HB1.out hbx.out)
  obtain ⟨m, hm⟩ : ∃ m, Hid (m = min len 120) := ⟨_, Lib.hid rfl⟩
  go_loopg [7] (m + 1) (fun gk s7 wr => ∃ (i : Nat) (A' : Option Addr) (c' : Nat) (gl' : Option Nat), gk = m + 1 - i ∧ i ≤ m ∧ s7 = .int .i64 (i : Int) ∧ Hid (Two wr g gl' A' (Bk.runTo L i)) ∧ Hid (Blk wr gr 53 #[.slice A' (Bk.runTo L i).l.length c', .int .i64 (Bk.runTo L i).next]) ∧ Hid (Below W.heap.size W wr) ∧ Hid (gl' ≠ some gr ∧ (∀ k, gl' = some k → W.heap.size ≤ k) ∧ (∀ bb off, A' = some ⟨bb, off, none⟩ → 0 < (Bk.runTo L i).l.length → bb ≠ gr)))
  case atStart => exact ⟨0, none, 0, gl, rfl, Nat.zero_le _, rfl, by rw [hz.out]; exact HTw, by rw [hz.out]; exact BR, HB2, Lib.hid ⟨hgr0.out.2.1, hgg.out.2, fun bb off e => by cases e⟩⟩
  case round =>
    clear HTw BR HB2 hbx
    obtain ⟨i, A', c', gl', rfl, hi, rfl, HT, BR, HB, HF⟩ := hrel
    have i0 : (0 : Int) ≤ (i : Int) := by omega
    by_cases him : i < m
    · have hin : i < len := by have := hm.out; omega
      have hiI : (i : Int) < (len : Int) := by omega
      have hi1 : (i : Int) < 120 := by have := hm.out; omega
      have hiL : Hid (i < L.length) := Lib.hid (by rw [hn.out]; exact hin)
      obtain ⟨sb, so, rfl⟩ : ∃ b o, A = some ⟨b, o, none⟩ := by
        obtain ⟨b, o, e, _⟩ := H.out.cells hiL.out
        exact ⟨b, o, e⟩
      have hsb : Hid (sb < W.heap.size) := Lib.hid (by
        obtain ⟨b', o', e, h1, _⟩ := Row.at_ H.out (k := i * 7) (by have := hiL.out; omega)
        cases e; exact h1)
      have HS7 := Lib.hid (fun wx hh => SRow.seven H.out hiL.out (w' := wx) hh)
      have hNx := Lib.hid (Bk.runTo_next L hiL.out)
      have HM := Lib.hid (show m + 1 - (i + 1) < m + 1 - i by omega)
      have HSt := Lib.hid (fun wx (hb : Below wr.heap.size wr wx) => step_calls wx g gl' A' (Bk.runTo L i) c' (L.getD i sact0) (HT.out.below hb))
      generalize Bk.runTo L i = B at HT BR HF hNx HSt
      generalize L.getD i sact0 = a at HS7 hNx HSt
      obtain ⟨k, qi, qo, qp, qa, qpl, qb⟩ := a
      unfold scell ocell at HSt
      simp only at HS7 HSt
      obtain ⟨B', hB'⟩ : ∃ B', Hid (B.act ⟨k, ⟨qi, qo, qp, qa, qpl, qb⟩⟩ = B') := ⟨_, Lib.hid rfl⟩
      rw [hB'.out] at hNx HSt
      unfold Stepped at HSt
      unfold rval at HSt
      obtain ⟨n', hn'⟩ : ∃ n', Hid (B.l.length = n') := ⟨_, Lib.hid rfl⟩
      obtain ⟨nx, hnx⟩ : ∃ nx, Hid (B.next = nx) := ⟨_, Lib.hid rfl⟩
      rw [hn'.out, hnx.out] at BR
      have HSt2 : Hid (∀ wx, Below wr.heap.size wr wx → Calls Try.prog 29 #[.pointer (some ⟨g, 0, none⟩), .agg #[.slice A' n' c', .int .i64 nx], .agg #[.int .i64 k, .int .i64 qi, .int .i64 qo, .int .i64 qp, .int .i64 qa, .int .i64 qpl, .bool qb]] wx fun e w' => ∃ A2 c2, e = .returned (.tuple #[.agg #[.slice A2 B'.l.length c2, .int .i64 B'.next], .bool true]) ∧ ∃ gl2, Two w' g gl2 A2 B' ∧ Only (fun x => x = g ∨ some x = gl') wx w' ∧ gl2 ≠ some gr ∧ (∀ k, gl2 = some k → W.heap.size ≤ k) ∧ (∀ bb off, A2 = some ⟨bb, off, none⟩ → 0 < B'.l.length → bb ≠ gr) ∧ (∀ q, q < wx.heap.size → gl' ≠ some q → (∀ bb off, A' = some ⟨bb, off, none⟩ → 0 < n' → bb ≠ q) → gl2 ≠ some q ∧ ∀ bb off, A2 = some ⟨bb, off, none⟩ → 0 < B'.l.length → bb ≠ q)) := Lib.hid fun wx hb => by
        have := HSt.out wx hb
        rw [hn'.out, hnx.out] at this
        refine this.mono ?_
        rintro e w' ⟨A2, c2, gl2, rfl, t1, t2, t3, t4⟩
        have hgrl : gr < wx.heap.size := Nat.lt_of_lt_of_le BR.out.lt hb.size
        refine ⟨A2, c2, rfl, gl2, t1, t2, fun e => ?_, fun x e => ?_, t4 gr hgrl fun bb off e hl => HF.out.2.2 bb off e (by rw [hn'.out]; exact hl), fun q hq h1 h2 => ⟨fun e => ?_, t4 q hq h2⟩⟩
        · rcases t3 with rfl | ⟨x, hx, hx2⟩
          · exact HF.out.1 e
          · rw [hx] at e; cases e; omega
        · rcases t3 with rfl | ⟨y, hy, hy2⟩
          · exact HF.out.2.1 x e
          · rw [hy] at e; cases e
            exact Nat.le_trans (Nat.le_trans HB.out.size hb.size) hy2
        · rcases t3 with rfl | ⟨x, hx, hx2⟩
          · exact h1 e
          · rw [hx] at e; cases e; omega
      have hsep : Hid (¬ (gr = g ∨ some gr = gl') ∧ ¬ (sb = g ∨ some sb = gl')) := Lib.hid ⟨by
        rintro (hh | hh)
        · exact hgr0.out.1 hh.symm
        · exact HF.out.1 hh.symm, by
        rintro (hh | hh)
        · have := hgg.out.1; have := hsb.out; omega
        · have := HF.out.2.1 _ hh.symm; have := hsb.out; omega⟩
      have HSo : Hid (∀ wt wx : World, Below wr.heap.size wr wt → Only (fun x => x = g ∨ some x = gl') wt wx → ((wx.cell? ⟨gr, 0, none⟩ = some (.slice A' n' c') ∧ wx.cell? ⟨gr, 1, none⟩ = some (.int .i64 nx)) ∧ (wx.cell? ⟨sb, so + i * 7, none⟩ = some (.int .i64 k) ∧ wx.cell? ⟨sb, so + i * 7 + 1, none⟩ = some (.int .i64 qi) ∧ wx.cell? ⟨sb, so + i * 7 + 2, none⟩ = some (.int .i64 qo) ∧ wx.cell? ⟨sb, so + i * 7 + 3, none⟩ = some (.int .i64 qp) ∧ wx.cell? ⟨sb, so + i * 7 + 4, none⟩ = some (.int .i64 qa) ∧ wx.cell? ⟨sb, so + i * 7 + 5, none⟩ = some (.int .i64 qpl) ∧ wx.cell? ⟨sb, so + i * 7 + 6, none⟩ = some (.bool qb)))) := Lib.hid fun wt wx hb ho => by
        have b1 := (BR.out.below hb BR.out.lt).only ho hsep.out.1
        obtain ⟨q0, q1, q2, q3, q4, q5, q6⟩ := HS7.out wt (HB.out.trans (hb.mono HB.out.size))
        have hsz : sb < wt.heap.size := Nat.lt_of_lt_of_le hsb.out (Nat.le_trans HB.out.size hb.size)
        have hk : ∀ o, wx.cell? ⟨sb, o, none⟩ = wt.cell? ⟨sb, o, none⟩ := fun o => World.cell?_of_block (a := ⟨sb, o, none⟩) (ho.block sb hsz hsep.out.2)
        exact ⟨⟨b1.cell 0, b1.cell 1⟩, (hk _).trans q0, (hk _).trans q1, (hk _).trans q2, (hk _).trans q3, (hk _).trans q4, (hk _).trans q5, (hk _).trans q6⟩
      have Hd0 : Hid (Below wr.heap.size wr wr.drew) := Lib.hid (Below.refl _ _).drew
      have Hd1 : Hid (Below wr.heap.size wr (wr.alloc (.cells #[.slice none 0 0, .int .i64 0] 53)).drew) := Lib.hid ((Below.refl _ _).alloc (Nat.le_refl _) _).drew
      have BN : Hid (Blk (wr.alloc (.cells #[.slice none 0 0, .int .i64 0] 53)).drew wr.heap.size 53 #[.slice none 0 0, .int .i64 0]) := Lib.hid (Blk.new wr _ _).drew
      have hsz : Hid (gr ≠ wr.heap.size ∧ sb ≠ wr.heap.size ∧ wr.heap.size ≠ g ∧ gl' ≠ some wr.heap.size ∧ (∀ bb off, A' = some ⟨bb, off, none⟩ → 0 < n' → bb ≠ wr.heap.size)) := Lib.hid (by
        refine ⟨by have := BR.out.lt; omega, by have := hsb.out; have := HB.out.size; omega, by have := HT.out.book.lt; omega, fun e => ?_, fun bb off e hl => ?_⟩
        · obtain ⟨_, _, _, ho⟩ := HT.out.book.box
          have := ho.lt e
          omega
        · obtain ⟨b2, o2, e3, h4⟩ := HT.out.row.some (by rw [hn'.out]; exact hl)
          rw [e] at e3
          cases e3
          omega)
      have HS2 : Hid (∀ (wx : World) (v0 v1 : Value) (wz : World), wz = ((wx.setCell ⟨wr.heap.size, 0, none⟩ v0).setCell ⟨wr.heap.size, 1, none⟩ v1) → ((wx.cell? ⟨gr, 0, none⟩ = some (.slice A' n' c') ∧ wx.cell? ⟨gr, 1, none⟩ = some (.int .i64 nx)) ∧ (wx.cell? ⟨sb, so + i * 7, none⟩ = some (.int .i64 k) ∧ wx.cell? ⟨sb, so + i * 7 + 1, none⟩ = some (.int .i64 qi) ∧ wx.cell? ⟨sb, so + i * 7 + 2, none⟩ = some (.int .i64 qo) ∧ wx.cell? ⟨sb, so + i * 7 + 3, none⟩ = some (.int .i64 qp) ∧ wx.cell? ⟨sb, so + i * 7 + 4, none⟩ = some (.int .i64 qa) ∧ wx.cell? ⟨sb, so + i * 7 + 5, none⟩ = some (.int .i64 qpl) ∧ wx.cell? ⟨sb, so + i * 7 + 6, none⟩ = some (.bool qb))) → ((wz.cell? ⟨gr, 0, none⟩ = some (.slice A' n' c') ∧ wz.cell? ⟨gr, 1, none⟩ = some (.int .i64 nx)) ∧ (wz.cell? ⟨sb, so + i * 7, none⟩ = some (.int .i64 k) ∧ wz.cell? ⟨sb, so + i * 7 + 1, none⟩ = some (.int .i64 qi) ∧ wz.cell? ⟨sb, so + i * 7 + 2, none⟩ = some (.int .i64 qo) ∧ wz.cell? ⟨sb, so + i * 7 + 3, none⟩ = some (.int .i64 qp) ∧ wz.cell? ⟨sb, so + i * 7 + 4, none⟩ = some (.int .i64 qa) ∧ wz.cell? ⟨sb, so + i * 7 + 5, none⟩ = some (.int .i64 qpl) ∧ wz.cell? ⟨sb, so + i * 7 + 6, none⟩ = some (.bool qb)))) := Lib.hid fun wx v0 v1 wz hwz ⟨⟨r0, r1⟩, q0, q1, q2, q3, q4, q5, q6⟩ => by
        subst hwz
        exact ⟨⟨far2 r0 hsz.out.1 _ _, far2 r1 hsz.out.1 _ _⟩, far2 q0 hsz.out.2.1 _ _, far2 q1 hsz.out.2.1 _ _, far2 q2 hsz.out.2.1 _ _, far2 q3 hsz.out.2.1 _ _, far2 q4 hsz.out.2.1 _ _, far2 q5 hsz.out.2.1 _ _, far2 q6 hsz.out.2.1 _ _⟩
      have hwrd : Hid (wr.heap.size < (wr.alloc (.cells #[.slice none 0 0, .int .i64 0] 53)).drew.heap.size) := Lib.hid BN.out.lt
      have HEnd0 : Hid (∀ w5 A2 c2 gl2, Two w5 g gl2 A2 B' → Only (fun x => x = g ∨ some x = gl') wr.drew w5 → gl2 ≠ some gr → (∀ k, gl2 = some k → W.heap.size ≤ k) → (∀ bb off, A2 = some ⟨bb, off, none⟩ → 0 < B'.l.length → bb ≠ gr) → Turned W wr g gr B' w5.heap.size (w5.alloc (.cells #[.slice A2 B'.l.length c2, .int .i64 B'.next] 53))) := Lib.hid fun w5 A2 c2 gl2 t1 t2 t3 t4 t5 => by
        have hbl : Below W.heap.size W w5 := (HB.out.trans (Hd0.out.mono HB.out.size)).trans (t2.below HB.out.size fun x hx => by
          rcases hx with rfl | hx
          · exact hgg.out.1
          · exact HF.out.2.1 x hx.symm)
        refine ⟨A2, c2, gl2, Blk.new _ _ _, t1.below ((Below.refl _ _).alloc (Nat.le_refl _) _), hbl.alloc hbl.size _, Nat.le_trans t2.size (by simp), ?_, t3, t4, t5⟩
        have h1 : gr < w5.heap.size := Nat.lt_of_lt_of_le BR.out.lt t2.size
        have h2 := t2.block gr BR.out.lt hsep.out.1
        exact ((Below.refl w5.heap.size w5).alloc (Nat.le_refl _) _).block gr h1 |>.trans h2
      have HEnd1 : Hid (∀ w5 A2 c2 gl2, Two w5 g gl2 A2 B' → Only (fun x => x = g ∨ some x = gl') (wr.alloc (.cells #[.slice none 0 0, .int .i64 0] 53)).drew w5 → gl2 ≠ some gr → (∀ k, gl2 = some k → W.heap.size ≤ k) → (∀ bb off, A2 = some ⟨bb, off, none⟩ → 0 < B'.l.length → bb ≠ gr) → gl2 ≠ some wr.heap.size → (∀ bb off, A2 = some ⟨bb, off, none⟩ → 0 < B'.l.length → bb ≠ wr.heap.size) → Turned W wr g gr B' wr.heap.size ((w5.setCell ⟨wr.heap.size, 0, none⟩ (.slice A2 B'.l.length c2)).setCell ⟨wr.heap.size, 1, none⟩ (.int .i64 B'.next))) := Lib.hid fun w5 A2 c2 gl2 t1 t2 t3 t4 t5 t6 t7 => by
        have hbl : Below W.heap.size W w5 := (HB.out.trans (Hd1.out.mono HB.out.size)).trans (t2.below (Nat.le_trans HB.out.size Hd1.out.size) fun x hx => by
          rcases hx with rfl | hx
          · exact hgg.out.1
          · exact HF.out.2.1 x hx.symm)
        have B5 := BN.out.only t2 (by
          rintro (hh | hh)
          · exact hsz.out.2.2.1 hh
          · exact hsz.out.2.2.2.1 hh.symm)
        have B6 := (B5.set_ 0 (.slice A2 B'.l.length c2)).set_ 1 (.int .i64 B'.next)
        refine ⟨A2, c2, gl2, by simpa using B6, t1.far2 hsz.out.2.2.1 t6 t7 _ _, (hbl.setCell (p := ⟨wr.heap.size, 0, none⟩) HB.out.size _).setCell (p := ⟨wr.heap.size, 1, none⟩) HB.out.size _, ?_, ?_, t3, t4, t5⟩
        · have h1 := Hd1.out.size
          have h2 := t2.size
          simp only [World.size_setCell] at *
          simp
          exact Nat.le_trans h1 h2
        · have h2 := (t2.block gr (Nat.lt_of_lt_of_le BR.out.lt Hd1.out.size) hsep.out.1).trans (Hd1.out.block gr BR.out.lt)
          rw [heap_setCell_other _ ⟨wr.heap.size, 1, none⟩ gr _ (by rintro e; exact hsz.out.1 e), heap_setCell_other _ ⟨wr.heap.size, 0, none⟩ gr _ (by rintro e; exact hsz.out.1 e)]
          exact h2
      have HT0 := Lib.hid (HSt2.out _ Hd0.out)
      have HT1' := Lib.hid (HSt2.out _ Hd1.out)
      obtain ⟨⟨x0, x1⟩, a0, a1, a2, a3, a4, a5, a6⟩ := HSo.out wr wr (Below.refl _ _) (Only.refl _ _)
      go_upto_region 7 with (fail)
      go_cut [8, 9] from 14 to 43 (fun s8 s9 wc => ∃ gt, s8 = .pointer (some ⟨gt, 0, none⟩) ∧ s9 = .bool true ∧ Hid (Turned W wr g gr B' gt wc))
      case first =>
        go_region_held3 (fun wx => ((wx.cell? ⟨gr, 0, none⟩ = some (.slice A' n' c') ∧ wx.cell? ⟨gr, 1, none⟩ = some (.int .i64 nx)) ∧ (wx.cell? ⟨sb, so + i * 7, none⟩ = some (.int .i64 k) ∧ wx.cell? ⟨sb, so + i * 7 + 1, none⟩ = some (.int .i64 qi) ∧ wx.cell? ⟨sb, so + i * 7 + 2, none⟩ = some (.int .i64 qo) ∧ wx.cell? ⟨sb, so + i * 7 + 3, none⟩ = some (.int .i64 qp) ∧ wx.cell? ⟨sb, so + i * 7 + 4, none⟩ = some (.int .i64 qa) ∧ wx.cell? ⟨sb, so + i * 7 + 5, none⟩ = some (.int .i64 qpl) ∧ wx.cell? ⟨sb, so + i * 7 + 6, none⟩ = some (.bool qb))))
          (first | exact HSo.out _ _ (Below.refl _ _) (Only.refl _ _) | exact HSo.out _ _ Hd0.out (Only.refl _ _) | exact HSo.out _ _ Hd1.out (Only.refl _ _) | exact HSo.out _ _ ((Below.refl _ _).alloc (Nat.le_refl _) _) (Only.refl _ _) | (with_reducible exact HSo.out _ _ Hd0.out ho0.out) | (with_reducible exact HSo.out _ _ Hd0.out (ho0.out.then_below ((Below.refl _ _).alloc (Nat.le_refl _) _))) | (with_reducible exact HSo.out _ _ Hd1.out ho1.out) | exact HS2.out _ _ _ _ rfl (HSo.out _ _ Hd1.out ho1.out))
          (first
            | (go_at_call 29; (with_reducible refine (HT0.out).mono ?_); rintro e w5 ⟨A2, c2, rfl, gl2, t1, t2, t3, t4, t5, t6⟩; have ho0 := Lib.hid t2; have HE0 := Lib.hid (HEnd0.out w5 A2 c2 gl2 t1 t2 t3 t4 t5); clear t1 t2 t3 t4 t5 t6)
            | (go_at_call 29; (with_reducible refine (HT1'.out).mono ?_); rintro e w5 ⟨A2, c2, rfl, gl2, t1, t2, t3, t4, t5, t6⟩; have ho1 := Lib.hid t2; have hq6 := t6 wr.heap.size hwrd.out hsz.out.2.2.2.1 hsz.out.2.2.2.2; have HE1 := Lib.hid (HEnd1.out w5 A2 c2 gl2 t1 t2 t3 t4 t5 hq6.1 hq6.2); have B5 := Lib.hid (BN.out.only t2 (by rintro (hh | hh); exact hsz.out.2.2.1 hh; exact hsz.out.2.2.2.1 hh.symm)); clear hq6 t1 t2 t3 t4 t5 t6; obtain ⟨zz0, zz1⟩ : w5.cell? ⟨wr.heap.size, 0, none⟩ = some (.slice none 0 0) ∧ w5.cell? ⟨wr.heap.size, 1, none⟩ = some (.int .i64 0) := ⟨B5.out.cell 0, B5.out.cell 1⟩; have ff0 := B5.out.frozen 0; have ff1 := B5.out.frozen 1))
        · go_wp2_with fail
          go_meet
          first | exact ⟨_, rfl, rfl, HE0⟩ | exact ⟨_, rfl, rfl, HE1⟩
        · go_wp2_with fail
          go_meet
          first | exact ⟨_, rfl, rfl, HE1⟩ | exact ⟨_, rfl, rfl, HE0⟩
      case rest =>
        obtain ⟨gt, rfl, rfl, HTd⟩ := hcut
        clear HT0 HT1' HEnd0 HEnd1 HS2 HSo HSt HSt2 Hd0 Hd1 BN hwrd x0 x1 a0 a1 a2 a3 a4 a5 a6
        obtain ⟨A2, c2, gl2, t1, t2, t3, t4, t5, t6, t7, t8⟩ := HTd.out
        have BRc : Hid (Blk wc gr 53 #[.slice A' n' c', .int .i64 nx]) := Lib.hid (by
          have hh := BR.out
          unfold Blk at hh ⊢
          rw [t5]; exact hh)
        obtain ⟨m', hm'⟩ : ∃ m', Hid (B'.l.length = m') := ⟨_, Lib.hid rfl⟩
        obtain ⟨nx', hnx'⟩ : ∃ nx', Hid (B'.next = nx') := ⟨_, Lib.hid rfl⟩
        have HLk : Hid (∀ wx, Two wx g gl2 A2 B' → Calls Try.prog 30 #[.pointer (some ⟨g, 0, none⟩), .agg #[.slice A2 m' c2, .int .i64 nx'], .int .i64 id] wx (Told wx (.bool true))) := Lib.hid fun wx ht => by
          have := like_calls wx g gl2 A2 B' c2 id ht
          unfold rval at this
          rwa [hm'.out, hnx'.out] at this
        rw [hm'.out, hnx'.out] at t1
        have g0 : wc.cell? ⟨gt, 0, none⟩ = some (.slice A2 m' c2) := t1.cell 0
        have g1 : wc.cell? ⟨gt, 1, none⟩ = some (.int .i64 nx') := t1.cell 1
        have r0 : wc.cell? ⟨gr, 0, none⟩ = some (.slice A' n' c') := BRc.out.cell 0
        have r1 : wc.cell? ⟨gr, 1, none⟩ = some (.int .i64 nx) := BRc.out.cell 1
        have f0 := BRc.out.frozen 0
        have f1 := BRc.out.frozen 1
        obtain ⟨w6, hw6⟩ : ∃ w6, (wc.setCell ⟨gr, 0, none⟩ (.slice A2 m' c2)).setCell ⟨gr, 1, none⟩ (.int .i64 nx') = w6 := ⟨_, rfl⟩
        have HT6 : Hid (Two w6 g gl2 A2 B') := Lib.hid (by rw [← hw6]; exact t2.far2 (fun e => hgr0.out.1 e.symm) t6 t8 _ _)
        have HB6 : Hid (Below W.heap.size W w6) := Lib.hid (by rw [← hw6]; exact (t3.setCell (p := ⟨gr, 0, none⟩) hgr0.out.2.2 _).setCell (p := ⟨gr, 1, none⟩) hgr0.out.2.2 _)
        have BR6 : Hid (Blk w6 gr 53 #[.slice A2 m' c2, .int .i64 nx']) := Lib.hid (by
          rw [← hw6]
          have := (BRc.out.set_ 0 (.slice A2 m' c2)).set_ 1 (.int .i64 nx')
          simpa using this)
        have HF6 : Hid (gl2 ≠ some gr ∧ (∀ k, gl2 = some k → W.heap.size ≤ k) ∧ (∀ bb off, A2 = some ⟨bb, off, none⟩ → 0 < B'.l.length → bb ≠ gr)) := Lib.hid ⟨t6, t7, t8⟩
        clear t1 t2 t3 t4 t5 t6 t7 t8 HTd
        go_upto_region 9 with (fail)
        (try rw [hw6])
        clear hw6 g0 g1 r0 r1 f0 f1
        obtain ⟨r0, r1⟩ : w6.cell? ⟨gr, 0, none⟩ = some (.slice A2 m' c2) ∧ w6.cell? ⟨gr, 1, none⟩ = some (.int .i64 nx') := ⟨BR6.out.cell 0, BR6.out.cell 1⟩
        have HLx := Lib.hid (HLk.out w6 HT6.out)
        go_wp2_with (go_at_call 30; (with_reducible refine HLx.out.mono ?_); rintro e w7 ⟨rfl, hh⟩; have hb7 := Lib.hid hh; clear hh)
        go_roundg (m + 1 - (i + 1))
        case measure => exact HM.out
        case rel => exact ⟨i + 1, A2, c2, gl2, rfl, by omega, by first | rfl | go_num, by rw [hNx.out]; exact Lib.hid (HT6.out.below hb7.out), by rw [hNx.out, hm'.out, hnx'.out]; exact Lib.hid (BR6.out.below hb7.out BR6.out.lt), Lib.hid (HB6.out.trans (hb7.out.mono HB6.out.size)), by rw [hNx.out]; exact HF6⟩
    · by_cases hin : i < len
      · have hiI : (i : Int) < (len : Int) := by omega
        have hi1 : ¬ (i : Int) < 120 := by have := hm.out; omega
        clear HT BR HF
        go_wp2_with (go_at_call 20; (with_reducible refine (HAw.out _).mono ?_); rintro e w8 ⟨rfl, hh⟩; have hb8 := Lib.hid (HB.out.trans (hh.mono HB.out.size)); clear hh)
        refine bodyPost_ret (by simp [results, Try.results9, asAddr, go_sem]; rfl) rfl ?_
        exact ⟨rfl, hb8.out⟩
      · have hiI : ¬ (i : Int) < (len : Int) := by omega
        clear HT BR HF
        go_wp2_with (go_at_call 20; (with_reducible refine (HAw.out _).mono ?_); rintro e w8 ⟨rfl, hh⟩; have hb8 := Lib.hid (HB.out.trans (hh.mono HB.out.size)); clear hh)
        refine bodyPost_ret (by simp [results, Try.results9, asAddr, go_sem]; rfl) rfl ?_
        exact ⟨rfl, hb8.out⟩
end Go.Proofs.Ytilbhnloelgpdaa
