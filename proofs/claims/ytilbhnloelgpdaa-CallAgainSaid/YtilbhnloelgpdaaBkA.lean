/- Amend. -/
import Derived.Test.YtilbhnloelgpdaaBkN
import Derived.Test.YtilbhnloelgpdaaInv
namespace Go.Proofs.Ytilbhnloelgpdaa
open Go.RowKit
set_option linter.unusedVariables false
set_option linter.unusedSimpArgs false
theorem step_call_fun {P : Program} {ops : Array Oper} {o : Oper} {a : Act} {w : World} {K : Act → World → Prop} {Q : Exit → Act → World → Prop} {E : Prop} (hgd : o.guard = none) (f : FuncId) (args : Array Operand) (ts : Array TypeId) (ho : o.op = .call { callee := .value (.func f), args := args, argTypes := ts })
    (hf : (P.funcs[f]?).map (fun fn => (fn.name == "runtime.NumGoroutine", fn.body.isSome)) = some (false, true))
    (vs : Array Value) (hvs : args.map a.eval = vs) (h : Calls P f vs w fun e w' => ∃ v, e = .returned v ∧ K (a.put o.dst v) w') :
    if Region.wanted o (yielded ops a.tmps) = true then Oper.wp P o a w K Q else E := by
  have hw : Region.wanted o (yielded ops a.tmps) = true := by simp [Region.wanted, hgd]
  rw [if_pos hw]
  exact wp_call_fun f args ts ho hf vs hvs h
theorem turns_append2 {w wa w4 : World} {g n c4 : Nat} {gl b4 : Option Nat} {A4 : Option Addr} {v0 : Value} {L : List Ord} {nx : Int} {o2 : Ord} (hL : L.length = n) (hga : Blk wa g 76 #[v0, .int .i64 nx]) (hOn : Only (fun x => x = g ∨ some x = gl) w wa)
    (hown : Own w4 6 (.slice A4 (n + 1) c4) b4 (n + 1) (ocells L ++ ocell o2)) (hg : wa.grownBy w4 gl) (hbb : b4 = gl ∨ b4 = some wa.heap.size) (hgl : gl ≠ some g) (hok : (⟨L ++ [o2], nx⟩ : Bk).Ok) :
    Blk w4 g 76 #[v0, .int .i64 nx] ∧ Turns w (w4.setCell ⟨g, 0, none⟩ (.slice A4 (n + 1) c4)) g gl ⟨L ++ [o2], nx⟩ := by
  have hg4 : Blk w4 g 76 #[v0, .int .i64 nx] := by
    have e := hg.block g hga.lt fun e => hgl e.symm
    unfold Blk at hga ⊢
    rw [e]; exact hga
  have hb4 : b4 ≠ some g := by
    rcases hbb with e | e
    · rw [e]; exact hgl
    · rw [e]; intro e2
      have := hga.lt
      cases e2
      omega
  refine ⟨hg4, b4, ⟨⟨A4, c4, ?_, ?_⟩, hb4, hok⟩, ?_, ?_⟩
  · have := (blk_two hg4 (.slice A4 (n + 1) c4)).1
    show Blk _ g _ #[.slice A4 (L ++ [o2]).length c4, .int .i64 nx]
    rw [List.length_append, hL]; exact this
  · show Own _ 6 (.slice A4 (L ++ [o2]).length c4) b4 (L ++ [o2]).length (ocells (L ++ [o2]))
    rw [List.length_append, hL, ocells_append]
    exact hown.far hb4 _ _
  · exact (hOn.trans (Only.of_grown hg) fun x hx => .inl (.inr hx)).setCell (.inl (.inl rfl)) _
  · rcases hbb with e | e
    · exact .inl e
    · exact .inr ⟨_, e, hOn.size⟩
theorem blk_price {w : World} {g : Nat} {t : TypeId} {a0 a1 a2 a3 a4 a5 : Value} (h : Blk w g t #[a0, a1, a2, a3, a4, a5]) (u v : Value) : Blk ((w.setCell ⟨g, 2, none⟩ u).setCell ⟨g, 3, none⟩ v) g t #[a0, a1, u, v, a4, a5] := by
  have h1 := (h.set_ 2 u).set_ 3 v
  simp only [List.setIfInBounds_toArray, List.set_cons_zero, List.set_cons_succ] at h1
  exact h1
set_option maxHeartbeats 16000000 in
set_option maxRecDepth 100000 in
theorem amend_calls (w : World) (g : Nat) (gl : Option Nat) (b : Bk) (h : AtB w g gl b) (id owner price amount : Int) : Calls Try.prog 27 #[.pointer (some ⟨g, 0, none⟩), .int .i64 id, .int .i64 owner, .int .i64 price, .int .i64 amount] w fun e w' => e = .returned (.int .i64 (b.amend id owner price amount).2) ∧ Turns w w' g gl (b.amend id owner price amount).1 := by
  have H := Lib.hid h
  have HMi := Lib.hid (mine_calls w g gl b h id owner)
  have hok := Lib.hid (Bk.amend_ok h.ok id owner price amount)
  by_cases hz : (b.mine id owner).2 = 0
  · obtain ⟨hi, _, he⟩ := Bk.mine_zero hz
    have hE : b.amend id owner price amount = (if ¬ ({ b.l.getD (Bk.ix b.l id) ord0 with price := price, amount := amount } : Ord).right = true then (b, 1) else if price = (b.l.getD (Bk.ix b.l id) ord0).price ∧ amount ≤ (b.l.getD (Bk.ix b.l id) ord0).amount then (⟨b.l.set (Bk.ix b.l id) { b.l.getD (Bk.ix b.l id) ord0 with price := price, amount := amount }, b.next⟩, 0) else if 9007199254740992 ≤ b.next then (b, 2) else (⟨b.l.eraseIdx (Bk.ix b.l id) ++ [{ b.l.getD (Bk.ix b.l id) ord0 with price := price, amount := amount, place := b.next }], b.next + 1⟩, 0)) := by
      unfold Bk.amend
      rw [if_neg (by rw [hz]; simp)]
    obtain ⟨E, hEE⟩ : ∃ E, Hid (b.amend id owner price amount = E) := ⟨_, Lib.hid rfl⟩
    rw [hEE.out] at hE hok ⊢
    rw [he] at HMi
    obtain ⟨A, c, hB, hO⟩ := h.box
    have HB := Lib.hid hB
    have HO := Lib.hid hO
    have HOw := Lib.hid (hO.orow rfl).2.2
    have hfew := h.ok.few
    have hn0 := h.ok.next0
    have hn1 := h.ok.next1
    obtain ⟨i, hie⟩ : ∃ i, Hid (Bk.ix b.l id = i) := ⟨_, Lib.hid rfl⟩
    rw [hie.out] at hi HMi hE
    have hL : Hid (i < b.l.length) := Lib.hid hi
    obtain ⟨n, hn⟩ : ∃ n, Hid (b.l.length = n) := ⟨_, Lib.hid rfl⟩
    obtain ⟨nx, hnx⟩ : ∃ nx, Hid (b.next = nx) := ⟨_, Lib.hid rfl⟩
    rw [hn.out] at HB HO hi hfew
    rw [hnx.out] at HB hE hn0 hn1
    obtain ⟨bb, oo, rfl⟩ : ∃ b o, A = some ⟨b, o, none⟩ := by
      obtain ⟨b, o, e, _⟩ := HOw.out.cells hL.out
      exact ⟨b, o, e⟩
    have HC := Lib.hid (fun wx hh => ORow.six HOw.out hL.out (w' := wx) hh)
    have i0 : (0 : Int) ≤ (i : Int) := by omega
    have i1 : (i : Int) < (n : Int) := by omega
    generalize b.l.getD i ord0 = q at HC hE
    obtain ⟨qi, qo, qp, qa, qpl, qb⟩ := q
    simp only at HC hE
    have HR : Hid (∀ wx, Calls Try.prog 47 #[.agg #[.int .i64 qi, .int .i64 qo, .int .i64 price, .int .i64 amount, .int .i64 qpl, .bool qb]] wx (Told wx (.bool (Ord.right ⟨qi, qo, price, amount, qpl, qb⟩)))) := Lib.hid fun wx => right_calls wx ⟨qi, qo, price, amount, qpl, qb⟩
    generalize Ord.right ⟨qi, qo, price, amount, qpl, qb⟩ = r at HR hE
    clear h hB hO hz he
    by_cases hpq : price = qp
    · have hpB : (price == qp) = true := by simpa using hpq
      cases r with
      | false =>
        have hE3 := Lib.hid hE
        rw [if_pos (by simp)] at hE3
        rw [hE3.out]
        clear hE hpq
        by_cases haq : amount ≤ qa
        ·
          go_enter Try.func27, Try.ntmps27
          go_upto_region 4 with (go_at_call 46; (with_reducible refine HMi.out.mono ?_); rintro e w1 ⟨rfl, hh⟩; have hb1 := Lib.hid hh; clear hh)
          have BG := Lib.hid (HB.out.below hb1.out HB.out.lt)
          have x0 := BG.out.cell 0
          simp at x0
          obtain ⟨c0, c1', c2, c3, c4, c5⟩ := HC.out w1 hb1.out
          go_upto_region 5 with (fail)
          have hbx : Hid (Below w1.heap.size w1 (w1.alloc (.cells #[.int .i64 qi, .int .i64 qo, .int .i64 qp, .int .i64 qa, .int .i64 qpl, .bool qb] 33))) := Lib.hid ((Below.refl _ _).alloc (Nat.le_refl _) _)
          have BX := Lib.hid (Blk.new w1 33 #[.int .i64 qi, .int .i64 qo, .int .i64 qp, .int .i64 qa, .int .i64 qpl, .bool qb])
          obtain ⟨k, hk⟩ : ∃ k, Hid (w1.heap.size = k) := ⟨_, Lib.hid rfl⟩
          rw [hk.out] at BX ⊢
          clear c0 c1' c2 c3 c4 c5 x0
          generalize World.alloc w1 _ = wx at hbx BX ⊢
          obtain ⟨c2, c3⟩ : wx.cell? ⟨k, 2, none⟩ = some (.int .i64 qp) ∧ wx.cell? ⟨k, 3, none⟩ = some (.int .i64 qa) := ⟨BX.out.cell 2, BX.out.cell 3⟩
          obtain ⟨f2, f3⟩ : wx.frozen? ⟨k, 2, none⟩ = false ∧ wx.frozen? ⟨k, 3, none⟩ = false := ⟨BX.out.frozen 2, BX.out.frozen 3⟩
          go_upto_region 7 with (fail)
          obtain ⟨wy, hwy⟩ : ∃ wy, (wx.setCell ⟨k, 2, none⟩ (.int .i64 price)).setCell ⟨k, 3, none⟩ (.int .i64 amount) = wy := ⟨_, rfl⟩
          have BY : Hid (Blk wy k 33 #[.int .i64 qi, .int .i64 qo, .int .i64 price, .int .i64 amount, .int .i64 qpl, .bool qb]) := Lib.hid (by rw [← hwy]; exact blk_price BX.out _ _)
          have hby : Hid (Below w.heap.size w wy) := Lib.hid (by
            rw [← hwy]
            have hkk : w.heap.size ≤ k := by rw [← hk.out]; exact hb1.out.size
            exact ((below_next hb1.out hbx.out).setCell (p := ⟨k, _, none⟩) hkk _).setCell (p := ⟨k, _, none⟩) hkk _)
          rw [hwy]
          clear hwy c2 c3 f2 f3
          obtain ⟨d0, d1, d2, d3, d4, d5⟩ : wy.cell? ⟨k, 0, none⟩ = some (.int .i64 qi) ∧ wy.cell? ⟨k, 1, none⟩ = some (.int .i64 qo) ∧ wy.cell? ⟨k, 2, none⟩ = some (.int .i64 price) ∧ wy.cell? ⟨k, 3, none⟩ = some (.int .i64 amount) ∧ wy.cell? ⟨k, 4, none⟩ = some (.int .i64 qpl) ∧ wy.cell? ⟨k, 5, none⟩ = some (.bool qb) := ⟨BY.out.cell 0, BY.out.cell 1, BY.out.cell 2, BY.out.cell 3, BY.out.cell 4, BY.out.cell 5⟩
          go_upto_region 9 with (go_at_call 47; (with_reducible refine (HR.out _).mono ?_); rintro e w2 ⟨rfl, hh⟩; have hb2 := Lib.hid hh; clear hh)
          clear d0 d1 d2 d3 d4 d5
          have hbw := Lib.hid (below_next hby.out hb2.out)
          have B2 := Lib.hid (BY.out.below hb2.out BY.out.lt)
          have BG2 := Lib.hid (HB.out.below hbw.out HB.out.lt)
          go_wp2
          refine bodyPost_ret (by simp [results, Try.results27, asAddr, go_sem]; rfl) rfl ?_
          exact ⟨rfl, Turns.same H.out hbw.out⟩
        ·
          go_enter Try.func27, Try.ntmps27
          go_upto_region 4 with (go_at_call 46; (with_reducible refine HMi.out.mono ?_); rintro e w1 ⟨rfl, hh⟩; have hb1 := Lib.hid hh; clear hh)
          have BG := Lib.hid (HB.out.below hb1.out HB.out.lt)
          have x0 := BG.out.cell 0
          simp at x0
          obtain ⟨c0, c1', c2, c3, c4, c5⟩ := HC.out w1 hb1.out
          go_upto_region 5 with (fail)
          have hbx : Hid (Below w1.heap.size w1 (w1.alloc (.cells #[.int .i64 qi, .int .i64 qo, .int .i64 qp, .int .i64 qa, .int .i64 qpl, .bool qb] 33))) := Lib.hid ((Below.refl _ _).alloc (Nat.le_refl _) _)
          have BX := Lib.hid (Blk.new w1 33 #[.int .i64 qi, .int .i64 qo, .int .i64 qp, .int .i64 qa, .int .i64 qpl, .bool qb])
          obtain ⟨k, hk⟩ : ∃ k, Hid (w1.heap.size = k) := ⟨_, Lib.hid rfl⟩
          rw [hk.out] at BX ⊢
          clear c0 c1' c2 c3 c4 c5 x0
          generalize World.alloc w1 _ = wx at hbx BX ⊢
          obtain ⟨c2, c3⟩ : wx.cell? ⟨k, 2, none⟩ = some (.int .i64 qp) ∧ wx.cell? ⟨k, 3, none⟩ = some (.int .i64 qa) := ⟨BX.out.cell 2, BX.out.cell 3⟩
          obtain ⟨f2, f3⟩ : wx.frozen? ⟨k, 2, none⟩ = false ∧ wx.frozen? ⟨k, 3, none⟩ = false := ⟨BX.out.frozen 2, BX.out.frozen 3⟩
          go_upto_region 7 with (fail)
          obtain ⟨wy, hwy⟩ : ∃ wy, (wx.setCell ⟨k, 2, none⟩ (.int .i64 price)).setCell ⟨k, 3, none⟩ (.int .i64 amount) = wy := ⟨_, rfl⟩
          have BY : Hid (Blk wy k 33 #[.int .i64 qi, .int .i64 qo, .int .i64 price, .int .i64 amount, .int .i64 qpl, .bool qb]) := Lib.hid (by rw [← hwy]; exact blk_price BX.out _ _)
          have hby : Hid (Below w.heap.size w wy) := Lib.hid (by
            rw [← hwy]
            have hkk : w.heap.size ≤ k := by rw [← hk.out]; exact hb1.out.size
            exact ((below_next hb1.out hbx.out).setCell (p := ⟨k, _, none⟩) hkk _).setCell (p := ⟨k, _, none⟩) hkk _)
          rw [hwy]
          clear hwy c2 c3 f2 f3
          obtain ⟨d0, d1, d2, d3, d4, d5⟩ : wy.cell? ⟨k, 0, none⟩ = some (.int .i64 qi) ∧ wy.cell? ⟨k, 1, none⟩ = some (.int .i64 qo) ∧ wy.cell? ⟨k, 2, none⟩ = some (.int .i64 price) ∧ wy.cell? ⟨k, 3, none⟩ = some (.int .i64 amount) ∧ wy.cell? ⟨k, 4, none⟩ = some (.int .i64 qpl) ∧ wy.cell? ⟨k, 5, none⟩ = some (.bool qb) := ⟨BY.out.cell 0, BY.out.cell 1, BY.out.cell 2, BY.out.cell 3, BY.out.cell 4, BY.out.cell 5⟩
          go_upto_region 9 with (go_at_call 47; (with_reducible refine (HR.out _).mono ?_); rintro e w2 ⟨rfl, hh⟩; have hb2 := Lib.hid hh; clear hh)
          clear d0 d1 d2 d3 d4 d5
          have hbw := Lib.hid (below_next hby.out hb2.out)
          have B2 := Lib.hid (BY.out.below hb2.out BY.out.lt)
          have BG2 := Lib.hid (HB.out.below hbw.out HB.out.lt)
          go_wp2
          refine bodyPost_ret (by simp [results, Try.results27, asAddr, go_sem]; rfl) rfl ?_
          exact ⟨rfl, Turns.same H.out hbw.out⟩
      | true =>
        rw [if_neg (by simp)] at hE
        by_cases haq : amount ≤ qa
        · have hE3 := Lib.hid hE
          rw [if_pos ⟨hpq, haq⟩] at hE3
          rw [hE3.out] at hok ⊢
          clear hE hpq
          go_enter Try.func27, Try.ntmps27
          go_upto_region 4 with (go_at_call 46; (with_reducible refine HMi.out.mono ?_); rintro e w1 ⟨rfl, hh⟩; have hb1 := Lib.hid hh; clear hh)
          have BG := Lib.hid (HB.out.below hb1.out HB.out.lt)
          have x0 := BG.out.cell 0
          simp at x0
          obtain ⟨c0, c1', c2, c3, c4, c5⟩ := HC.out w1 hb1.out
          go_upto_region 5 with (fail)
          have hbx : Hid (Below w1.heap.size w1 (w1.alloc (.cells #[.int .i64 qi, .int .i64 qo, .int .i64 qp, .int .i64 qa, .int .i64 qpl, .bool qb] 33))) := Lib.hid ((Below.refl _ _).alloc (Nat.le_refl _) _)
          have BX := Lib.hid (Blk.new w1 33 #[.int .i64 qi, .int .i64 qo, .int .i64 qp, .int .i64 qa, .int .i64 qpl, .bool qb])
          obtain ⟨k, hk⟩ : ∃ k, Hid (w1.heap.size = k) := ⟨_, Lib.hid rfl⟩
          rw [hk.out] at BX ⊢
          clear c0 c1' c2 c3 c4 c5 x0
          generalize World.alloc w1 _ = wx at hbx BX ⊢
          obtain ⟨c2, c3⟩ : wx.cell? ⟨k, 2, none⟩ = some (.int .i64 qp) ∧ wx.cell? ⟨k, 3, none⟩ = some (.int .i64 qa) := ⟨BX.out.cell 2, BX.out.cell 3⟩
          obtain ⟨f2, f3⟩ : wx.frozen? ⟨k, 2, none⟩ = false ∧ wx.frozen? ⟨k, 3, none⟩ = false := ⟨BX.out.frozen 2, BX.out.frozen 3⟩
          go_upto_region 7 with (fail)
          obtain ⟨wy, hwy⟩ : ∃ wy, (wx.setCell ⟨k, 2, none⟩ (.int .i64 price)).setCell ⟨k, 3, none⟩ (.int .i64 amount) = wy := ⟨_, rfl⟩
          have BY : Hid (Blk wy k 33 #[.int .i64 qi, .int .i64 qo, .int .i64 price, .int .i64 amount, .int .i64 qpl, .bool qb]) := Lib.hid (by rw [← hwy]; exact blk_price BX.out _ _)
          have hby : Hid (Below w.heap.size w wy) := Lib.hid (by
            rw [← hwy]
            have hkk : w.heap.size ≤ k := by rw [← hk.out]; exact hb1.out.size
            exact ((below_next hb1.out hbx.out).setCell (p := ⟨k, _, none⟩) hkk _).setCell (p := ⟨k, _, none⟩) hkk _)
          rw [hwy]
          clear hwy c2 c3 f2 f3
          obtain ⟨d0, d1, d2, d3, d4, d5⟩ : wy.cell? ⟨k, 0, none⟩ = some (.int .i64 qi) ∧ wy.cell? ⟨k, 1, none⟩ = some (.int .i64 qo) ∧ wy.cell? ⟨k, 2, none⟩ = some (.int .i64 price) ∧ wy.cell? ⟨k, 3, none⟩ = some (.int .i64 amount) ∧ wy.cell? ⟨k, 4, none⟩ = some (.int .i64 qpl) ∧ wy.cell? ⟨k, 5, none⟩ = some (.bool qb) := ⟨BY.out.cell 0, BY.out.cell 1, BY.out.cell 2, BY.out.cell 3, BY.out.cell 4, BY.out.cell 5⟩
          go_upto_region 9 with (go_at_call 47; (with_reducible refine (HR.out _).mono ?_); rintro e w2 ⟨rfl, hh⟩; have hb2 := Lib.hid hh; clear hh)
          clear d0 d1 d2 d3 d4 d5
          have hbw := Lib.hid (below_next hby.out hb2.out)
          have B2 := Lib.hid (BY.out.below hb2.out BY.out.lt)
          have BG2 := Lib.hid (HB.out.below hbw.out HB.out.lt)
          have HO2 := Lib.hid (HO.out.below hbw.out)
          have hov := Lib.hid (HO2.out.over (p := i * 6) (vs := ocell ⟨qi, qo, price, amount, qpl, qb⟩) (by rw [ocell_length]; omega) (by rw [ocell_length]; omega))
          obtain ⟨g', off', egl, eA, hce, hOw2⟩ := hov.out
          cases eA
          have HT : Hid (Turns w (w2.setCells bb (oo + i * 6) (ocell ⟨qi, qo, price, amount, qpl, qb⟩)) g gl ⟨b.l.set i ⟨qi, qo, price, amount, qpl, qb⟩, nx⟩) := Lib.hid (by
            have ho := (only_setCells w2 bb (oo + i * 6) (ocell ⟨qi, qo, price, amount, qpl, qb⟩)).mono (S' := fun x => some x = gl) fun x hx => by rw [hx, egl]
            refine ⟨gl, ⟨⟨some ⟨bb, oo, none⟩, c, ?_, ?_⟩, H.out.apart, hok.out⟩, (Only.of_below hbw.out).trans ho fun x hx => .inl (.inr hx), .inl rfl⟩
            · show Blk _ g _ #[.slice (some ⟨bb, oo, none⟩) (b.l.set i _).length c, .int .i64 nx]
              rw [List.length_set, hn.out]
              exact keep_box BG2.out ho H.out.apart
            · show Own _ 6 (.slice (some ⟨bb, oo, none⟩) (b.l.set i _).length c) gl (b.l.set i _).length (ocells (b.l.set i _))
              rw [List.length_set, hn.out, ← over_ocells b.l hL.out]
              exact hOw2)
          have x0 := BG2.out.cell 0
          simp at x0
          obtain ⟨d0, d1, d2, d3, d4, d5⟩ : w2.cell? ⟨k, 0, none⟩ = some (.int .i64 qi) ∧ w2.cell? ⟨k, 1, none⟩ = some (.int .i64 qo) ∧ w2.cell? ⟨k, 2, none⟩ = some (.int .i64 price) ∧ w2.cell? ⟨k, 3, none⟩ = some (.int .i64 amount) ∧ w2.cell? ⟨k, 4, none⟩ = some (.int .i64 qpl) ∧ w2.cell? ⟨k, 5, none⟩ = some (.bool qb) := ⟨B2.out.cell 0, B2.out.cell 1, B2.out.cell 2, B2.out.cell 3, B2.out.cell 4, B2.out.cell 5⟩
          obtain ⟨c0, c1', c2, c3, c4, c5⟩ := HC.out w2 hbw.out
          obtain ⟨f0, f1, f2, f3, f4, f5⟩ : (w2.frozen? ⟨bb, oo + i * 6, none⟩ = false ∧ w2.frozen? ⟨bb, oo + i * 6 + 1, none⟩ = false ∧ w2.frozen? ⟨bb, oo + i * 6 + 2, none⟩ = false ∧ w2.frozen? ⟨bb, oo + i * 6 + 3, none⟩ = false ∧ w2.frozen? ⟨bb, oo + i * 6 + 4, none⟩ = false ∧ w2.frozen? ⟨bb, oo + i * 6 + 5, none⟩ = false) := ⟨(hce 0 (by rw [ocell_length]; omega)).2, (hce 1 (by rw [ocell_length]; omega)).2, (hce 2 (by rw [ocell_length]; omega)).2, (hce 3 (by rw [ocell_length]; omega)).2, (hce 4 (by rw [ocell_length]; omega)).2, (hce 5 (by rw [ocell_length]; omega)).2⟩
          clear hce hOw2 egl
          go_upto_region 10 with (fail)
          go_region
          go_wp2
          refine bodyPost_ret (by simp [results, Try.results27, asAddr, go_sem]; rfl) rfl ?_
          refine ⟨rfl, ?_⟩
          obtain ⟨gl', t1, t2, t3⟩ := HT.out
          exact ⟨gl', t1.below (Below.refl _ _).drew, t2.then_below (Below.refl _ _).drew, t3⟩
        · rw [if_neg (fun hh => haq hh.2)] at hE
          clear hpq
          by_cases hfull : 9007199254740992 ≤ nx
          · have hE3 := Lib.hid hE
            rw [if_pos hfull] at hE3
            rw [hE3.out]
            clear hE
            go_enter Try.func27, Try.ntmps27
            go_upto_region 4 with (go_at_call 46; (with_reducible refine HMi.out.mono ?_); rintro e w1 ⟨rfl, hh⟩; have hb1 := Lib.hid hh; clear hh)
            have BG := Lib.hid (HB.out.below hb1.out HB.out.lt)
            have x0 := BG.out.cell 0
            simp at x0
            obtain ⟨c0, c1', c2, c3, c4, c5⟩ := HC.out w1 hb1.out
            go_upto_region 5 with (fail)
            have hbx : Hid (Below w1.heap.size w1 (w1.alloc (.cells #[.int .i64 qi, .int .i64 qo, .int .i64 qp, .int .i64 qa, .int .i64 qpl, .bool qb] 33))) := Lib.hid ((Below.refl _ _).alloc (Nat.le_refl _) _)
            have BX := Lib.hid (Blk.new w1 33 #[.int .i64 qi, .int .i64 qo, .int .i64 qp, .int .i64 qa, .int .i64 qpl, .bool qb])
            obtain ⟨k, hk⟩ : ∃ k, Hid (w1.heap.size = k) := ⟨_, Lib.hid rfl⟩
            rw [hk.out] at BX ⊢
            clear c0 c1' c2 c3 c4 c5 x0
            generalize World.alloc w1 _ = wx at hbx BX ⊢
            obtain ⟨c2, c3⟩ : wx.cell? ⟨k, 2, none⟩ = some (.int .i64 qp) ∧ wx.cell? ⟨k, 3, none⟩ = some (.int .i64 qa) := ⟨BX.out.cell 2, BX.out.cell 3⟩
            obtain ⟨f2, f3⟩ : wx.frozen? ⟨k, 2, none⟩ = false ∧ wx.frozen? ⟨k, 3, none⟩ = false := ⟨BX.out.frozen 2, BX.out.frozen 3⟩
            go_upto_region 7 with (fail)
            obtain ⟨wy, hwy⟩ : ∃ wy, (wx.setCell ⟨k, 2, none⟩ (.int .i64 price)).setCell ⟨k, 3, none⟩ (.int .i64 amount) = wy := ⟨_, rfl⟩
            have BY : Hid (Blk wy k 33 #[.int .i64 qi, .int .i64 qo, .int .i64 price, .int .i64 amount, .int .i64 qpl, .bool qb]) := Lib.hid (by rw [← hwy]; exact blk_price BX.out _ _)
            have hby : Hid (Below w.heap.size w wy) := Lib.hid (by
              rw [← hwy]
              have hkk : w.heap.size ≤ k := by rw [← hk.out]; exact hb1.out.size
              exact ((below_next hb1.out hbx.out).setCell (p := ⟨k, _, none⟩) hkk _).setCell (p := ⟨k, _, none⟩) hkk _)
            rw [hwy]
            clear hwy c2 c3 f2 f3
            obtain ⟨d0, d1, d2, d3, d4, d5⟩ : wy.cell? ⟨k, 0, none⟩ = some (.int .i64 qi) ∧ wy.cell? ⟨k, 1, none⟩ = some (.int .i64 qo) ∧ wy.cell? ⟨k, 2, none⟩ = some (.int .i64 price) ∧ wy.cell? ⟨k, 3, none⟩ = some (.int .i64 amount) ∧ wy.cell? ⟨k, 4, none⟩ = some (.int .i64 qpl) ∧ wy.cell? ⟨k, 5, none⟩ = some (.bool qb) := ⟨BY.out.cell 0, BY.out.cell 1, BY.out.cell 2, BY.out.cell 3, BY.out.cell 4, BY.out.cell 5⟩
            go_upto_region 9 with (go_at_call 47; (with_reducible refine (HR.out _).mono ?_); rintro e w2 ⟨rfl, hh⟩; have hb2 := Lib.hid hh; clear hh)
            clear d0 d1 d2 d3 d4 d5
            have hbw := Lib.hid (below_next hby.out hb2.out)
            have B2 := Lib.hid (BY.out.below hb2.out BY.out.lt)
            have BG2 := Lib.hid (HB.out.below hbw.out HB.out.lt)
            have x1 := BG2.out.cell 1
            simp at x1
            go_wp2
            refine bodyPost_ret (by simp [results, Try.results27, asAddr, go_sem]; rfl) rfl ?_
            exact ⟨rfl, Turns.same H.out hbw.out⟩
          · have hE3 := Lib.hid hE
            rw [if_neg hfull] at hE3
            rw [hE3.out] at hok ⊢
            clear hE
            have qn : IntKind.i64.wrap (nx + 1) = nx + 1 := by rw [IntKind.wrap_i64]; omega
            have qi1 : IntKind.i64.wrap ((i : Int) + 1) = (i : Int) + 1 := by rw [IntKind.wrap_i64]; omega
            obtain ⟨j1, hj1, hy0, hy1, hy2⟩ := info_parts info_order
            have HI1 := Lib.hid hj1
            have HY0 := Lib.hid hy0
            have HY1 := Lib.hid hy1
            have HY2 := Lib.hid hy2
            have hel : Hid ((b.l.eraseIdx i).length = n - 1) := Lib.hid (by rw [List.length_eraseIdx_of_lt hL.out, hn.out])
            have hA1 : Hid (n - 1 + 1 ≤ maxLen) := Lib.hid (by unfold maxLen; omega)
            have hA2 : Hid ((n - 1 + 1) * 48 ≤ 140737488355328) := Lib.hid (by omega)
            clear hj1 hy0 hy1 hy2
            go_enter Try.func27, Try.ntmps27
            go_upto_region 4 with (go_at_call 46; (with_reducible refine HMi.out.mono ?_); rintro e w1 ⟨rfl, hh⟩; have hb1 := Lib.hid hh; clear hh)
            have BG := Lib.hid (HB.out.below hb1.out HB.out.lt)
            have x0 := BG.out.cell 0
            simp at x0
            obtain ⟨c0, c1', c2, c3, c4, c5⟩ := HC.out w1 hb1.out
            go_upto_region 5 with (fail)
            have hbx : Hid (Below w1.heap.size w1 (w1.alloc (.cells #[.int .i64 qi, .int .i64 qo, .int .i64 qp, .int .i64 qa, .int .i64 qpl, .bool qb] 33))) := Lib.hid ((Below.refl _ _).alloc (Nat.le_refl _) _)
            have BX := Lib.hid (Blk.new w1 33 #[.int .i64 qi, .int .i64 qo, .int .i64 qp, .int .i64 qa, .int .i64 qpl, .bool qb])
            obtain ⟨k, hk⟩ : ∃ k, Hid (w1.heap.size = k) := ⟨_, Lib.hid rfl⟩
            rw [hk.out] at BX ⊢
            clear c0 c1' c2 c3 c4 c5 x0
            generalize World.alloc w1 _ = wx at hbx BX ⊢
            obtain ⟨c2, c3⟩ : wx.cell? ⟨k, 2, none⟩ = some (.int .i64 qp) ∧ wx.cell? ⟨k, 3, none⟩ = some (.int .i64 qa) := ⟨BX.out.cell 2, BX.out.cell 3⟩
            obtain ⟨f2, f3⟩ : wx.frozen? ⟨k, 2, none⟩ = false ∧ wx.frozen? ⟨k, 3, none⟩ = false := ⟨BX.out.frozen 2, BX.out.frozen 3⟩
            go_upto_region 7 with (fail)
            obtain ⟨wy, hwy⟩ : ∃ wy, (wx.setCell ⟨k, 2, none⟩ (.int .i64 price)).setCell ⟨k, 3, none⟩ (.int .i64 amount) = wy := ⟨_, rfl⟩
            have BY : Hid (Blk wy k 33 #[.int .i64 qi, .int .i64 qo, .int .i64 price, .int .i64 amount, .int .i64 qpl, .bool qb]) := Lib.hid (by rw [← hwy]; exact blk_price BX.out _ _)
            have hby : Hid (Below w.heap.size w wy) := Lib.hid (by
              rw [← hwy]
              have hkk : w.heap.size ≤ k := by rw [← hk.out]; exact hb1.out.size
              exact ((below_next hb1.out hbx.out).setCell (p := ⟨k, _, none⟩) hkk _).setCell (p := ⟨k, _, none⟩) hkk _)
            rw [hwy]
            clear hwy c2 c3 f2 f3
            obtain ⟨d0, d1, d2, d3, d4, d5⟩ : wy.cell? ⟨k, 0, none⟩ = some (.int .i64 qi) ∧ wy.cell? ⟨k, 1, none⟩ = some (.int .i64 qo) ∧ wy.cell? ⟨k, 2, none⟩ = some (.int .i64 price) ∧ wy.cell? ⟨k, 3, none⟩ = some (.int .i64 amount) ∧ wy.cell? ⟨k, 4, none⟩ = some (.int .i64 qpl) ∧ wy.cell? ⟨k, 5, none⟩ = some (.bool qb) := ⟨BY.out.cell 0, BY.out.cell 1, BY.out.cell 2, BY.out.cell 3, BY.out.cell 4, BY.out.cell 5⟩
            go_upto_region 9 with (go_at_call 47; (with_reducible refine (HR.out _).mono ?_); rintro e w2 ⟨rfl, hh⟩; have hb2 := Lib.hid hh; clear hh)
            clear d0 d1 d2 d3 d4 d5
            have hbw := Lib.hid (below_next hby.out hb2.out)
            have B2 := Lib.hid (BY.out.below hb2.out BY.out.lt)
            have BG2 := Lib.hid (HB.out.below hbw.out HB.out.lt)
            have hgk : Hid (g ≠ k ∧ gl ≠ some k ∧ gl ≠ some g ∧ w.heap.size ≤ k) := Lib.hid (by
              have hkk : w.heap.size ≤ k := by rw [← hk.out]; exact hb1.out.size
              refine ⟨by have := H.out.lt; omega, fun e => ?_, H.out.apart, hkk⟩
              have := HO.out.lt e
              omega)
            have x0 := BG2.out.cell 0
            have x1 := BG2.out.cell 1
            simp at x0 x1
            have x2 := BG2.out.frozen 1
            have y0 := B2.out.cell 4
            simp at y0
            have y1 := B2.out.frozen 4
            have hgk1 : g ≠ k := hgk.out.1
            have hgk2 : k ≠ g := fun e => hgk1 e.symm
            go_upto_region 16 with (fail)
            obtain ⟨w3, hw3⟩ : ∃ w3, (w2.setCell ⟨k, 4, none⟩ (.int .i64 nx)).setCell ⟨g, 1, none⟩ (.int .i64 (nx + 1)) = w3 := ⟨_, rfl⟩
            have HBK : Hid (Blk w3 k 33 #[.int .i64 qi, .int .i64 qo, .int .i64 price, .int .i64 amount, .int .i64 nx, .bool qb]) := Lib.hid (by rw [← hw3]; exact (blk_place B2.out _).far hgk2 _)
            have HBG : Hid (Blk w3 g 76 #[.slice (some ⟨bb, oo, none⟩) n c, .int .i64 (nx + 1)]) := Lib.hid (by rw [← hw3]; exact (blk_two (BG2.out.far hgk1 _) _).2)
            have HOw3 : Hid (Own w3 6 (.slice (some ⟨bb, oo, none⟩) n c) gl n (ocells b.l)) := Lib.hid (by rw [← hw3]; exact ((HO.out.below hbw.out).far hgk.out.2.1 _ _).far hgk.out.2.2.1 _ _)
            have HOn : Hid (Only (fun x => x = g ∨ some x = gl) w w3) := Lib.hid (by rw [← hw3]; exact ((Only.of_below hbw.out).setCell (.inr hgk.out.2.2.2) _).setCell (.inl (.inl rfl)) _)
            rw [hw3]
            clear hw3 x0 x1 x2 y0 y1 BG2 B2
            have hBX : Hid (∀ o, Below w3.heap.size w3 (w3.alloc o).drew) := Lib.hid fun o => ((Below.refl _ _).alloc (Nat.le_refl _) o).drew
            have HD : Hid (∀ wx, Below w3.heap.size w3 wx → Calls Try.prog 48 #[.slice (some ⟨bb, oo, none⟩) n c, .int .i64 (i : Int), .int .i64 ((i : Int) + 1)] wx fun e w' => e = .returned (.slice (some ⟨bb, oo, none⟩) (n - 1) c) ∧ Own w' 6 (.slice (some ⟨bb, oo, none⟩) (n - 1) c) gl (n - 1) (ocells (b.l.eraseIdx i)) ∧ Only (fun k => some k = gl) wx w') := Lib.hid fun wx hb => by
              have := delone_calls wx (some ⟨bb, oo, none⟩) b.l c gl (by rw [hn.out]; exact HOw3.out.below hb) (by rw [hn.out]; exact hfew) i hL.out
              rwa [hn.out] at this
            have HF : Hid (∀ wx w5, Below w3.heap.size w3 wx → Only (fun k => some k = gl) wx w5 → Blk w5 g 76 #[.slice (some ⟨bb, oo, none⟩) n c, .int .i64 (nx + 1)] ∧ Blk w5 k 33 #[.int .i64 qi, .int .i64 qo, .int .i64 price, .int .i64 amount, .int .i64 nx, .bool qb] ∧ Only (fun x => x = g ∨ some x = gl) w w5) := Lib.hid fun wx w5 hb ho => ⟨keep_box (HBG.out.below hb HBG.out.lt) ho hgk.out.2.2.1, keep_box (HBK.out.below hb HBK.out.lt) ho hgk.out.2.1, (HOn.out.then_below hb).trans ho fun x hx => .inl (.inr hx)⟩
            have hglw : Hid (∀ kk, gl = some kk → kk < w3.heap.size) := Lib.hid fun kk e => HOw3.out.lt e
            have HSa : Hid (∀ w5, Only (fun k => some k = gl) (w3.alloc (.cells #[.int .i64 qi, .int .i64 qo, .int .i64 price, .int .i64 amount, .int .i64 nx, .bool qb] 33)).drew w5 → Src Try.prog 6 22 (.slice (some ⟨w3.heap.size, 0, none⟩) 1 1) 1 (ocell ⟨qi, qo, price, amount, nx, qb⟩) w5) := Lib.hid fun w5 ho => by
              have hb5 : Blk w5 w3.heap.size 33 (ocell ⟨qi, qo, price, amount, nx, qb⟩).toArray := keep_box (Blk.new w3 33 (ocell ⟨qi, qo, price, amount, nx, qb⟩).toArray).drew ho (fun e => Nat.lt_irrefl _ (hglw.out _ e))
              refine Src.ofSlice _ Try.underlying22 ⟨w3.heap.size, 0, none⟩ 1 1 (ocell ⟨qi, qo, price, amount, nx, qb⟩) rfl (fun j u hu => ?_) (by simp [ocell, Value.oneCell'])
              rw [show (⟨w3.heap.size, 0, none⟩ : Addr).add j = ⟨w3.heap.size, j, none⟩ from by simp [Addr.add_lit], hb5.cell j, ← hu]
              simp
            have HSb : Hid (∀ wx : World, Src Try.prog 6 22 (.slice (some ⟨wx.heap.size, 0, none⟩) 1 1) 1 (ocell ⟨qi, qo, price, amount, nx, qb⟩) (wx.alloc (.cells (ocell ⟨qi, qo, price, amount, nx, qb⟩).toArray 33))) := Lib.hid fun wx => src_new Try.underlying22 wx _ _ 1 1 rfl (by simp [ocell, Value.oneCell'])
            obtain ⟨x0, y0, y1, y2, y3, y4, y5⟩ : w3.cell? ⟨g, 0, none⟩ = some (.slice (some ⟨bb, oo, none⟩) n c) ∧ w3.cell? ⟨k, 0, none⟩ = some (.int .i64 qi) ∧ w3.cell? ⟨k, 1, none⟩ = some (.int .i64 qo) ∧ w3.cell? ⟨k, 2, none⟩ = some (.int .i64 price) ∧ w3.cell? ⟨k, 3, none⟩ = some (.int .i64 amount) ∧ w3.cell? ⟨k, 4, none⟩ = some (.int .i64 nx) ∧ w3.cell? ⟨k, 5, none⟩ = some (.bool qb) := ⟨HBG.out.cell 0, HBK.out.cell 0, HBK.out.cell 1, HBK.out.cell 2, HBK.out.cell 3, HBK.out.cell 4, HBK.out.cell 5⟩
            have xs1 : (w3.alloc (.cells #[.int .i64 qi, .int .i64 qo, .int .i64 price, .int .i64 amount, .int .i64 nx, .bool qb] 33)).cell? ⟨g, 0, none⟩ = some (.slice (some ⟨bb, oo, none⟩) n c) := (HBG.out.below ((Below.refl _ _).alloc (Nat.le_refl _) _) HBG.out.lt).cell 0
            have HT2 := Lib.hid (fun (A4 : Option Addr) (c4 : Nat) (wa w4 : World) (b4 : Option Nat) (hga : Blk wa g 76 #[.slice (some ⟨bb, oo, none⟩) n c, .int .i64 (nx + 1)]) (hon : Only (fun x => x = g ∨ some x = gl) w wa) (hown : Own w4 6 (.slice A4 (n - 1 + 1) c4) b4 (n - 1 + 1) (ocells (b.l.eraseIdx i) ++ ocell ⟨qi, qo, price, amount, nx, qb⟩)) (hgr : wa.grownBy w4 gl) (hbb : b4 = gl ∨ b4 = some wa.heap.size) => turns_append2 hel.out hga hon hown hgr hbb hgk.out.2.2.1 hok.out)
            clear HBG HBK HOw3
            go_region_law (first
              | (refine step_call_fun rfl 48 _ _ rfl (by kernel_rfl) #[.slice (some ⟨bb, oo, none⟩) n c, .int .i64 (i : Int), .int .i64 ((i : Int) + 1)] (by simp [Act.eval, Act.put]) ((HD.out (w3.alloc (.cells #[.int .i64 qi, .int .i64 qo, .int .i64 price, .int .i64 amount, .int .i64 nx, .bool qb] 33)).drew (hBX.out _)).mono ?_); rintro e w5 ⟨rfl, hO5', hOn5⟩; have hO5 := Lib.hid hO5'; have hF5 := Lib.hid (HF.out _ w5 (hBX.out _) hOn5); have hS5 := Lib.hid (HSa.out w5 hOn5); clear hO5' hOn5; refine ⟨_, rfl, ?_⟩)
              | (refine step_call_fun rfl 48 _ _ rfl (by kernel_rfl) #[.slice (some ⟨bb, oo, none⟩) n c, .int .i64 (i : Int), .int .i64 ((i : Int) + 1)] (by simp [Act.eval, Act.put]) ((HD.out w3.drew (Below.refl _ _).drew).mono ?_); rintro e w5 ⟨rfl, hO5', hOn5⟩; have hO5 := Lib.hid hO5'; have hF5 := Lib.hid (HF.out _ w5 (Below.refl _ _).drew hOn5); obtain ⟨z0, z1, z2, z3, z4, z5⟩ : w5.cell? ⟨k, 0, none⟩ = some (.int .i64 qi) ∧ w5.cell? ⟨k, 1, none⟩ = some (.int .i64 qo) ∧ w5.cell? ⟨k, 2, none⟩ = some (.int .i64 price) ∧ w5.cell? ⟨k, 3, none⟩ = some (.int .i64 amount) ∧ w5.cell? ⟨k, 4, none⟩ = some (.int .i64 nx) ∧ w5.cell? ⟨k, 5, none⟩ = some (.bool qb) := ⟨hF5.out.2.1.cell 0, hF5.out.2.1.cell 1, hF5.out.2.1.cell 2, hF5.out.2.1.cell 3, hF5.out.2.1.cell 4, hF5.out.2.1.cell 5⟩; clear hO5' hOn5; refine ⟨_, rfl, ?_⟩)
              | (refine step_append_own rfl (.tmp 85) (.tmp 87) 22 22 rfl 33 j1 (.agg #[.int .i64 0, .int .i64 0, .int .i64 0, .int .i64 0, .int .i64 0, .bool false]) 48 Try.underlying22 HI1.out HY0.out HY1.out HY2.out rfl (by decide) rfl hO5.out _ 1 (ocell ⟨qi, qo, price, amount, nx, qb⟩) rfl hS5.out hA1.out hA2.out ?_; intro A4 c4 w4 b4 hown hgr hbb; have hT := Lib.hid (HT2.out A4 c4 _ w4 b4 hF5.out.1 hF5.out.2.2 hown hgr hbb); have z0 := hT.out.1.cell 0; simp at z0; have z1 := hT.out.1.frozen 0; clear hown hgr hbb)
              | (refine step_append_own rfl (.tmp 85) (.tmp 87) 22 22 rfl 33 j1 (.agg #[.int .i64 0, .int .i64 0, .int .i64 0, .int .i64 0, .int .i64 0, .bool false]) 48 Try.underlying22 HI1.out HY0.out HY1.out HY2.out rfl (by decide) rfl (hO5.out.below ((Below.refl _ _).alloc (Nat.le_refl _) _)) _ 1 (ocell ⟨qi, qo, price, amount, nx, qb⟩) rfl (HSb.out w5) hA1.out hA2.out ?_; intro A4 c4 w4 b4 hown hgr hbb; have hT := Lib.hid (HT2.out A4 c4 _ w4 b4 (hF5.out.1.alloc _) (hF5.out.2.2.then_below ((Below.refl _ _).alloc (Nat.le_refl _) _)) hown hgr hbb); have z0 := hT.out.1.cell 0; simp at z0; have z1 := hT.out.1.frozen 0; clear hown hgr hbb))
            all_goals
              go_wp2
              refine bodyPost_ret (by simp [results, Try.results27, asAddr, go_sem]; rfl) rfl ?_
              exact ⟨rfl, hT.out.2⟩
    · have hpB : (price == qp) = false := by simpa using hpq
      cases r with
      | false =>
        have hE3 := Lib.hid hE
        rw [if_pos (by simp)] at hE3
        rw [hE3.out]
        clear hE hpq
        go_enter Try.func27, Try.ntmps27
        go_upto_region 4 with (go_at_call 46; (with_reducible refine HMi.out.mono ?_); rintro e w1 ⟨rfl, hh⟩; have hb1 := Lib.hid hh; clear hh)
        have BG := Lib.hid (HB.out.below hb1.out HB.out.lt)
        have x0 := BG.out.cell 0
        simp at x0
        obtain ⟨c0, c1', c2, c3, c4, c5⟩ := HC.out w1 hb1.out
        go_upto_region 5 with (fail)
        have hbx : Hid (Below w1.heap.size w1 (w1.alloc (.cells #[.int .i64 qi, .int .i64 qo, .int .i64 qp, .int .i64 qa, .int .i64 qpl, .bool qb] 33))) := Lib.hid ((Below.refl _ _).alloc (Nat.le_refl _) _)
        have BX := Lib.hid (Blk.new w1 33 #[.int .i64 qi, .int .i64 qo, .int .i64 qp, .int .i64 qa, .int .i64 qpl, .bool qb])
        obtain ⟨k, hk⟩ : ∃ k, Hid (w1.heap.size = k) := ⟨_, Lib.hid rfl⟩
        rw [hk.out] at BX ⊢
        clear c0 c1' c2 c3 c4 c5 x0
        generalize World.alloc w1 _ = wx at hbx BX ⊢
        obtain ⟨c2, c3⟩ : wx.cell? ⟨k, 2, none⟩ = some (.int .i64 qp) ∧ wx.cell? ⟨k, 3, none⟩ = some (.int .i64 qa) := ⟨BX.out.cell 2, BX.out.cell 3⟩
        obtain ⟨f2, f3⟩ : wx.frozen? ⟨k, 2, none⟩ = false ∧ wx.frozen? ⟨k, 3, none⟩ = false := ⟨BX.out.frozen 2, BX.out.frozen 3⟩
        go_upto_region 7 with (fail)
        obtain ⟨wy, hwy⟩ : ∃ wy, (wx.setCell ⟨k, 2, none⟩ (.int .i64 price)).setCell ⟨k, 3, none⟩ (.int .i64 amount) = wy := ⟨_, rfl⟩
        have BY : Hid (Blk wy k 33 #[.int .i64 qi, .int .i64 qo, .int .i64 price, .int .i64 amount, .int .i64 qpl, .bool qb]) := Lib.hid (by rw [← hwy]; exact blk_price BX.out _ _)
        have hby : Hid (Below w.heap.size w wy) := Lib.hid (by
          rw [← hwy]
          have hkk : w.heap.size ≤ k := by rw [← hk.out]; exact hb1.out.size
          exact ((below_next hb1.out hbx.out).setCell (p := ⟨k, _, none⟩) hkk _).setCell (p := ⟨k, _, none⟩) hkk _)
        rw [hwy]
        clear hwy c2 c3 f2 f3
        obtain ⟨d0, d1, d2, d3, d4, d5⟩ : wy.cell? ⟨k, 0, none⟩ = some (.int .i64 qi) ∧ wy.cell? ⟨k, 1, none⟩ = some (.int .i64 qo) ∧ wy.cell? ⟨k, 2, none⟩ = some (.int .i64 price) ∧ wy.cell? ⟨k, 3, none⟩ = some (.int .i64 amount) ∧ wy.cell? ⟨k, 4, none⟩ = some (.int .i64 qpl) ∧ wy.cell? ⟨k, 5, none⟩ = some (.bool qb) := ⟨BY.out.cell 0, BY.out.cell 1, BY.out.cell 2, BY.out.cell 3, BY.out.cell 4, BY.out.cell 5⟩
        go_upto_region 9 with (go_at_call 47; (with_reducible refine (HR.out _).mono ?_); rintro e w2 ⟨rfl, hh⟩; have hb2 := Lib.hid hh; clear hh)
        clear d0 d1 d2 d3 d4 d5
        have hbw := Lib.hid (below_next hby.out hb2.out)
        have B2 := Lib.hid (BY.out.below hb2.out BY.out.lt)
        have BG2 := Lib.hid (HB.out.below hbw.out HB.out.lt)
        go_wp2
        refine bodyPost_ret (by simp [results, Try.results27, asAddr, go_sem]; rfl) rfl ?_
        exact ⟨rfl, Turns.same H.out hbw.out⟩
      | true =>
        rw [if_neg (by simp), if_neg (fun hh => hpq hh.1)] at hE
        clear hpq
        by_cases hfull : 9007199254740992 ≤ nx
        · have hE3 := Lib.hid hE
          rw [if_pos hfull] at hE3
          rw [hE3.out]
          clear hE
          go_enter Try.func27, Try.ntmps27
          go_upto_region 4 with (go_at_call 46; (with_reducible refine HMi.out.mono ?_); rintro e w1 ⟨rfl, hh⟩; have hb1 := Lib.hid hh; clear hh)
          have BG := Lib.hid (HB.out.below hb1.out HB.out.lt)
          have x0 := BG.out.cell 0
          simp at x0
          obtain ⟨c0, c1', c2, c3, c4, c5⟩ := HC.out w1 hb1.out
          go_upto_region 5 with (fail)
          have hbx : Hid (Below w1.heap.size w1 (w1.alloc (.cells #[.int .i64 qi, .int .i64 qo, .int .i64 qp, .int .i64 qa, .int .i64 qpl, .bool qb] 33))) := Lib.hid ((Below.refl _ _).alloc (Nat.le_refl _) _)
          have BX := Lib.hid (Blk.new w1 33 #[.int .i64 qi, .int .i64 qo, .int .i64 qp, .int .i64 qa, .int .i64 qpl, .bool qb])
          obtain ⟨k, hk⟩ : ∃ k, Hid (w1.heap.size = k) := ⟨_, Lib.hid rfl⟩
          rw [hk.out] at BX ⊢
          clear c0 c1' c2 c3 c4 c5 x0
          generalize World.alloc w1 _ = wx at hbx BX ⊢
          obtain ⟨c2, c3⟩ : wx.cell? ⟨k, 2, none⟩ = some (.int .i64 qp) ∧ wx.cell? ⟨k, 3, none⟩ = some (.int .i64 qa) := ⟨BX.out.cell 2, BX.out.cell 3⟩
          obtain ⟨f2, f3⟩ : wx.frozen? ⟨k, 2, none⟩ = false ∧ wx.frozen? ⟨k, 3, none⟩ = false := ⟨BX.out.frozen 2, BX.out.frozen 3⟩
          go_upto_region 7 with (fail)
          obtain ⟨wy, hwy⟩ : ∃ wy, (wx.setCell ⟨k, 2, none⟩ (.int .i64 price)).setCell ⟨k, 3, none⟩ (.int .i64 amount) = wy := ⟨_, rfl⟩
          have BY : Hid (Blk wy k 33 #[.int .i64 qi, .int .i64 qo, .int .i64 price, .int .i64 amount, .int .i64 qpl, .bool qb]) := Lib.hid (by rw [← hwy]; exact blk_price BX.out _ _)
          have hby : Hid (Below w.heap.size w wy) := Lib.hid (by
            rw [← hwy]
            have hkk : w.heap.size ≤ k := by rw [← hk.out]; exact hb1.out.size
            exact ((below_next hb1.out hbx.out).setCell (p := ⟨k, _, none⟩) hkk _).setCell (p := ⟨k, _, none⟩) hkk _)
          rw [hwy]
          clear hwy c2 c3 f2 f3
          obtain ⟨d0, d1, d2, d3, d4, d5⟩ : wy.cell? ⟨k, 0, none⟩ = some (.int .i64 qi) ∧ wy.cell? ⟨k, 1, none⟩ = some (.int .i64 qo) ∧ wy.cell? ⟨k, 2, none⟩ = some (.int .i64 price) ∧ wy.cell? ⟨k, 3, none⟩ = some (.int .i64 amount) ∧ wy.cell? ⟨k, 4, none⟩ = some (.int .i64 qpl) ∧ wy.cell? ⟨k, 5, none⟩ = some (.bool qb) := ⟨BY.out.cell 0, BY.out.cell 1, BY.out.cell 2, BY.out.cell 3, BY.out.cell 4, BY.out.cell 5⟩
          go_upto_region 9 with (go_at_call 47; (with_reducible refine (HR.out _).mono ?_); rintro e w2 ⟨rfl, hh⟩; have hb2 := Lib.hid hh; clear hh)
          clear d0 d1 d2 d3 d4 d5
          have hbw := Lib.hid (below_next hby.out hb2.out)
          have B2 := Lib.hid (BY.out.below hb2.out BY.out.lt)
          have BG2 := Lib.hid (HB.out.below hbw.out HB.out.lt)
          have x1 := BG2.out.cell 1
          simp at x1
          go_wp2
          refine bodyPost_ret (by simp [results, Try.results27, asAddr, go_sem]; rfl) rfl ?_
          exact ⟨rfl, Turns.same H.out hbw.out⟩
        · have hE3 := Lib.hid hE
          rw [if_neg hfull] at hE3
          rw [hE3.out] at hok ⊢
          clear hE
          have qn : IntKind.i64.wrap (nx + 1) = nx + 1 := by rw [IntKind.wrap_i64]; omega
          have qi1 : IntKind.i64.wrap ((i : Int) + 1) = (i : Int) + 1 := by rw [IntKind.wrap_i64]; omega
          obtain ⟨j1, hj1, hy0, hy1, hy2⟩ := info_parts info_order
          have HI1 := Lib.hid hj1
          have HY0 := Lib.hid hy0
          have HY1 := Lib.hid hy1
          have HY2 := Lib.hid hy2
          have hel : Hid ((b.l.eraseIdx i).length = n - 1) := Lib.hid (by rw [List.length_eraseIdx_of_lt hL.out, hn.out])
          have hA1 : Hid (n - 1 + 1 ≤ maxLen) := Lib.hid (by unfold maxLen; omega)
          have hA2 : Hid ((n - 1 + 1) * 48 ≤ 140737488355328) := Lib.hid (by omega)
          clear hj1 hy0 hy1 hy2
          go_enter Try.func27, Try.ntmps27
          go_upto_region 4 with (go_at_call 46; (with_reducible refine HMi.out.mono ?_); rintro e w1 ⟨rfl, hh⟩; have hb1 := Lib.hid hh; clear hh)
          have BG := Lib.hid (HB.out.below hb1.out HB.out.lt)
          have x0 := BG.out.cell 0
          simp at x0
          obtain ⟨c0, c1', c2, c3, c4, c5⟩ := HC.out w1 hb1.out
          go_upto_region 5 with (fail)
          have hbx : Hid (Below w1.heap.size w1 (w1.alloc (.cells #[.int .i64 qi, .int .i64 qo, .int .i64 qp, .int .i64 qa, .int .i64 qpl, .bool qb] 33))) := Lib.hid ((Below.refl _ _).alloc (Nat.le_refl _) _)
          have BX := Lib.hid (Blk.new w1 33 #[.int .i64 qi, .int .i64 qo, .int .i64 qp, .int .i64 qa, .int .i64 qpl, .bool qb])
          obtain ⟨k, hk⟩ : ∃ k, Hid (w1.heap.size = k) := ⟨_, Lib.hid rfl⟩
          rw [hk.out] at BX ⊢
          clear c0 c1' c2 c3 c4 c5 x0
          generalize World.alloc w1 _ = wx at hbx BX ⊢
          obtain ⟨c2, c3⟩ : wx.cell? ⟨k, 2, none⟩ = some (.int .i64 qp) ∧ wx.cell? ⟨k, 3, none⟩ = some (.int .i64 qa) := ⟨BX.out.cell 2, BX.out.cell 3⟩
          obtain ⟨f2, f3⟩ : wx.frozen? ⟨k, 2, none⟩ = false ∧ wx.frozen? ⟨k, 3, none⟩ = false := ⟨BX.out.frozen 2, BX.out.frozen 3⟩
          go_upto_region 7 with (fail)
          obtain ⟨wy, hwy⟩ : ∃ wy, (wx.setCell ⟨k, 2, none⟩ (.int .i64 price)).setCell ⟨k, 3, none⟩ (.int .i64 amount) = wy := ⟨_, rfl⟩
          have BY : Hid (Blk wy k 33 #[.int .i64 qi, .int .i64 qo, .int .i64 price, .int .i64 amount, .int .i64 qpl, .bool qb]) := Lib.hid (by rw [← hwy]; exact blk_price BX.out _ _)
          have hby : Hid (Below w.heap.size w wy) := Lib.hid (by
            rw [← hwy]
            have hkk : w.heap.size ≤ k := by rw [← hk.out]; exact hb1.out.size
            exact ((below_next hb1.out hbx.out).setCell (p := ⟨k, _, none⟩) hkk _).setCell (p := ⟨k, _, none⟩) hkk _)
          rw [hwy]
          clear hwy c2 c3 f2 f3
          obtain ⟨d0, d1, d2, d3, d4, d5⟩ : wy.cell? ⟨k, 0, none⟩ = some (.int .i64 qi) ∧ wy.cell? ⟨k, 1, none⟩ = some (.int .i64 qo) ∧ wy.cell? ⟨k, 2, none⟩ = some (.int .i64 price) ∧ wy.cell? ⟨k, 3, none⟩ = some (.int .i64 amount) ∧ wy.cell? ⟨k, 4, none⟩ = some (.int .i64 qpl) ∧ wy.cell? ⟨k, 5, none⟩ = some (.bool qb) := ⟨BY.out.cell 0, BY.out.cell 1, BY.out.cell 2, BY.out.cell 3, BY.out.cell 4, BY.out.cell 5⟩
          go_upto_region 9 with (go_at_call 47; (with_reducible refine (HR.out _).mono ?_); rintro e w2 ⟨rfl, hh⟩; have hb2 := Lib.hid hh; clear hh)
          clear d0 d1 d2 d3 d4 d5
          have hbw := Lib.hid (below_next hby.out hb2.out)
          have B2 := Lib.hid (BY.out.below hb2.out BY.out.lt)
          have BG2 := Lib.hid (HB.out.below hbw.out HB.out.lt)
          have hgk : Hid (g ≠ k ∧ gl ≠ some k ∧ gl ≠ some g ∧ w.heap.size ≤ k) := Lib.hid (by
            have hkk : w.heap.size ≤ k := by rw [← hk.out]; exact hb1.out.size
            refine ⟨by have := H.out.lt; omega, fun e => ?_, H.out.apart, hkk⟩
            have := HO.out.lt e
            omega)
          have x0 := BG2.out.cell 0
          have x1 := BG2.out.cell 1
          simp at x0 x1
          have x2 := BG2.out.frozen 1
          have y0 := B2.out.cell 4
          simp at y0
          have y1 := B2.out.frozen 4
          have hgk1 : g ≠ k := hgk.out.1
          have hgk2 : k ≠ g := fun e => hgk1 e.symm
          go_upto_region 16 with (fail)
          obtain ⟨w3, hw3⟩ : ∃ w3, (w2.setCell ⟨k, 4, none⟩ (.int .i64 nx)).setCell ⟨g, 1, none⟩ (.int .i64 (nx + 1)) = w3 := ⟨_, rfl⟩
          have HBK : Hid (Blk w3 k 33 #[.int .i64 qi, .int .i64 qo, .int .i64 price, .int .i64 amount, .int .i64 nx, .bool qb]) := Lib.hid (by rw [← hw3]; exact (blk_place B2.out _).far hgk2 _)
          have HBG : Hid (Blk w3 g 76 #[.slice (some ⟨bb, oo, none⟩) n c, .int .i64 (nx + 1)]) := Lib.hid (by rw [← hw3]; exact (blk_two (BG2.out.far hgk1 _) _).2)
          have HOw3 : Hid (Own w3 6 (.slice (some ⟨bb, oo, none⟩) n c) gl n (ocells b.l)) := Lib.hid (by rw [← hw3]; exact ((HO.out.below hbw.out).far hgk.out.2.1 _ _).far hgk.out.2.2.1 _ _)
          have HOn : Hid (Only (fun x => x = g ∨ some x = gl) w w3) := Lib.hid (by rw [← hw3]; exact ((Only.of_below hbw.out).setCell (.inr hgk.out.2.2.2) _).setCell (.inl (.inl rfl)) _)
          rw [hw3]
          clear hw3 x0 x1 x2 y0 y1 BG2 B2
          have hBX : Hid (∀ o, Below w3.heap.size w3 (w3.alloc o).drew) := Lib.hid fun o => ((Below.refl _ _).alloc (Nat.le_refl _) o).drew
          have HD : Hid (∀ wx, Below w3.heap.size w3 wx → Calls Try.prog 48 #[.slice (some ⟨bb, oo, none⟩) n c, .int .i64 (i : Int), .int .i64 ((i : Int) + 1)] wx fun e w' => e = .returned (.slice (some ⟨bb, oo, none⟩) (n - 1) c) ∧ Own w' 6 (.slice (some ⟨bb, oo, none⟩) (n - 1) c) gl (n - 1) (ocells (b.l.eraseIdx i)) ∧ Only (fun k => some k = gl) wx w') := Lib.hid fun wx hb => by
            have := delone_calls wx (some ⟨bb, oo, none⟩) b.l c gl (by rw [hn.out]; exact HOw3.out.below hb) (by rw [hn.out]; exact hfew) i hL.out
            rwa [hn.out] at this
          have HF : Hid (∀ wx w5, Below w3.heap.size w3 wx → Only (fun k => some k = gl) wx w5 → Blk w5 g 76 #[.slice (some ⟨bb, oo, none⟩) n c, .int .i64 (nx + 1)] ∧ Blk w5 k 33 #[.int .i64 qi, .int .i64 qo, .int .i64 price, .int .i64 amount, .int .i64 nx, .bool qb] ∧ Only (fun x => x = g ∨ some x = gl) w w5) := Lib.hid fun wx w5 hb ho => ⟨keep_box (HBG.out.below hb HBG.out.lt) ho hgk.out.2.2.1, keep_box (HBK.out.below hb HBK.out.lt) ho hgk.out.2.1, (HOn.out.then_below hb).trans ho fun x hx => .inl (.inr hx)⟩
          have hglw : Hid (∀ kk, gl = some kk → kk < w3.heap.size) := Lib.hid fun kk e => HOw3.out.lt e
          have HSa : Hid (∀ w5, Only (fun k => some k = gl) (w3.alloc (.cells #[.int .i64 qi, .int .i64 qo, .int .i64 price, .int .i64 amount, .int .i64 nx, .bool qb] 33)).drew w5 → Src Try.prog 6 22 (.slice (some ⟨w3.heap.size, 0, none⟩) 1 1) 1 (ocell ⟨qi, qo, price, amount, nx, qb⟩) w5) := Lib.hid fun w5 ho => by
            have hb5 : Blk w5 w3.heap.size 33 (ocell ⟨qi, qo, price, amount, nx, qb⟩).toArray := keep_box (Blk.new w3 33 (ocell ⟨qi, qo, price, amount, nx, qb⟩).toArray).drew ho (fun e => Nat.lt_irrefl _ (hglw.out _ e))
            refine Src.ofSlice _ Try.underlying22 ⟨w3.heap.size, 0, none⟩ 1 1 (ocell ⟨qi, qo, price, amount, nx, qb⟩) rfl (fun j u hu => ?_) (by simp [ocell, Value.oneCell'])
            rw [show (⟨w3.heap.size, 0, none⟩ : Addr).add j = ⟨w3.heap.size, j, none⟩ from by simp [Addr.add_lit], hb5.cell j, ← hu]
            simp
          have HSb : Hid (∀ wx : World, Src Try.prog 6 22 (.slice (some ⟨wx.heap.size, 0, none⟩) 1 1) 1 (ocell ⟨qi, qo, price, amount, nx, qb⟩) (wx.alloc (.cells (ocell ⟨qi, qo, price, amount, nx, qb⟩).toArray 33))) := Lib.hid fun wx => src_new Try.underlying22 wx _ _ 1 1 rfl (by simp [ocell, Value.oneCell'])
          obtain ⟨x0, y0, y1, y2, y3, y4, y5⟩ : w3.cell? ⟨g, 0, none⟩ = some (.slice (some ⟨bb, oo, none⟩) n c) ∧ w3.cell? ⟨k, 0, none⟩ = some (.int .i64 qi) ∧ w3.cell? ⟨k, 1, none⟩ = some (.int .i64 qo) ∧ w3.cell? ⟨k, 2, none⟩ = some (.int .i64 price) ∧ w3.cell? ⟨k, 3, none⟩ = some (.int .i64 amount) ∧ w3.cell? ⟨k, 4, none⟩ = some (.int .i64 nx) ∧ w3.cell? ⟨k, 5, none⟩ = some (.bool qb) := ⟨HBG.out.cell 0, HBK.out.cell 0, HBK.out.cell 1, HBK.out.cell 2, HBK.out.cell 3, HBK.out.cell 4, HBK.out.cell 5⟩
          have xs1 : (w3.alloc (.cells #[.int .i64 qi, .int .i64 qo, .int .i64 price, .int .i64 amount, .int .i64 nx, .bool qb] 33)).cell? ⟨g, 0, none⟩ = some (.slice (some ⟨bb, oo, none⟩) n c) := (HBG.out.below ((Below.refl _ _).alloc (Nat.le_refl _) _) HBG.out.lt).cell 0
          have HT2 := Lib.hid (fun (A4 : Option Addr) (c4 : Nat) (wa w4 : World) (b4 : Option Nat) (hga : Blk wa g 76 #[.slice (some ⟨bb, oo, none⟩) n c, .int .i64 (nx + 1)]) (hon : Only (fun x => x = g ∨ some x = gl) w wa) (hown : Own w4 6 (.slice A4 (n - 1 + 1) c4) b4 (n - 1 + 1) (ocells (b.l.eraseIdx i) ++ ocell ⟨qi, qo, price, amount, nx, qb⟩)) (hgr : wa.grownBy w4 gl) (hbb : b4 = gl ∨ b4 = some wa.heap.size) => turns_append2 hel.out hga hon hown hgr hbb hgk.out.2.2.1 hok.out)
          clear HBG HBK HOw3
          go_region_law (first
            | (refine step_call_fun rfl 48 _ _ rfl (by kernel_rfl) #[.slice (some ⟨bb, oo, none⟩) n c, .int .i64 (i : Int), .int .i64 ((i : Int) + 1)] (by simp [Act.eval, Act.put]) ((HD.out (w3.alloc (.cells #[.int .i64 qi, .int .i64 qo, .int .i64 price, .int .i64 amount, .int .i64 nx, .bool qb] 33)).drew (hBX.out _)).mono ?_); rintro e w5 ⟨rfl, hO5', hOn5⟩; have hO5 := Lib.hid hO5'; have hF5 := Lib.hid (HF.out _ w5 (hBX.out _) hOn5); have hS5 := Lib.hid (HSa.out w5 hOn5); clear hO5' hOn5; refine ⟨_, rfl, ?_⟩)
            | (refine step_call_fun rfl 48 _ _ rfl (by kernel_rfl) #[.slice (some ⟨bb, oo, none⟩) n c, .int .i64 (i : Int), .int .i64 ((i : Int) + 1)] (by simp [Act.eval, Act.put]) ((HD.out w3.drew (Below.refl _ _).drew).mono ?_); rintro e w5 ⟨rfl, hO5', hOn5⟩; have hO5 := Lib.hid hO5'; have hF5 := Lib.hid (HF.out _ w5 (Below.refl _ _).drew hOn5); obtain ⟨z0, z1, z2, z3, z4, z5⟩ : w5.cell? ⟨k, 0, none⟩ = some (.int .i64 qi) ∧ w5.cell? ⟨k, 1, none⟩ = some (.int .i64 qo) ∧ w5.cell? ⟨k, 2, none⟩ = some (.int .i64 price) ∧ w5.cell? ⟨k, 3, none⟩ = some (.int .i64 amount) ∧ w5.cell? ⟨k, 4, none⟩ = some (.int .i64 nx) ∧ w5.cell? ⟨k, 5, none⟩ = some (.bool qb) := ⟨hF5.out.2.1.cell 0, hF5.out.2.1.cell 1, hF5.out.2.1.cell 2, hF5.out.2.1.cell 3, hF5.out.2.1.cell 4, hF5.out.2.1.cell 5⟩; clear hO5' hOn5; refine ⟨_, rfl, ?_⟩)
            | (refine step_append_own rfl (.tmp 85) (.tmp 87) 22 22 rfl 33 j1 (.agg #[.int .i64 0, .int .i64 0, .int .i64 0, .int .i64 0, .int .i64 0, .bool false]) 48 Try.underlying22 HI1.out HY0.out HY1.out HY2.out rfl (by decide) rfl hO5.out _ 1 (ocell ⟨qi, qo, price, amount, nx, qb⟩) rfl hS5.out hA1.out hA2.out ?_; intro A4 c4 w4 b4 hown hgr hbb; have hT := Lib.hid (HT2.out A4 c4 _ w4 b4 hF5.out.1 hF5.out.2.2 hown hgr hbb); have z0 := hT.out.1.cell 0; simp at z0; have z1 := hT.out.1.frozen 0; clear hown hgr hbb)
            | (refine step_append_own rfl (.tmp 85) (.tmp 87) 22 22 rfl 33 j1 (.agg #[.int .i64 0, .int .i64 0, .int .i64 0, .int .i64 0, .int .i64 0, .bool false]) 48 Try.underlying22 HI1.out HY0.out HY1.out HY2.out rfl (by decide) rfl (hO5.out.below ((Below.refl _ _).alloc (Nat.le_refl _) _)) _ 1 (ocell ⟨qi, qo, price, amount, nx, qb⟩) rfl (HSb.out w5) hA1.out hA2.out ?_; intro A4 c4 w4 b4 hown hgr hbb; have hT := Lib.hid (HT2.out A4 c4 _ w4 b4 (hF5.out.1.alloc _) (hF5.out.2.2.then_below ((Below.refl _ _).alloc (Nat.le_refl _) _)) hown hgr hbb); have z0 := hT.out.1.cell 0; simp at z0; have z1 := hT.out.1.frozen 0; clear hown hgr hbb))
          all_goals
            go_wp2
            refine bodyPost_ret (by simp [results, Try.results27, asAddr, go_sem]; rfl) rfl ?_
            exact ⟨rfl, hT.out.2⟩
  · have hE : Hid (b.amend id owner price amount = (b, (b.mine id owner).2)) := Lib.hid (by unfold Bk.amend; rw [if_pos hz])
    rw [hE.out]
    generalize (b.mine id owner).1 = m1 at HMi
    generalize (b.mine id owner).2 = m2 at HMi hz ⊢
    have hB : (m2 != 0) = true := by simpa using hz
    clear h hz
    go_enter Try.func27, Try.ntmps27
    go_wp2_with (go_at_call 46; (with_reducible refine HMi.out.mono ?_); rintro e w1 ⟨rfl, hh⟩; have hb1 := Lib.hid hh; clear hh)
    refine bodyPost_ret (by simp [results, Try.results27, asAddr, go_sem]; rfl) rfl ?_
    exact ⟨rfl, Turns.same H.out hb1.out⟩
end Go.Proofs.Ytilbhnloelgpdaa
