/- One call of both: the law's step. -/
import Derived.Test.YtilbhnloelgpdaaTwoB
namespace Go.Proofs.Ytilbhnloelgpdaa
open Go.RowKit
set_option linter.unusedVariables false
set_option linter.unusedSimpArgs false
theorem Blk.only {w w' : World} {k : Nat} {t : TypeId} {cs : Array Value} {S : Nat → Prop} (h : Blk w k t cs) (ho : Only S w w') (hS : ¬ S k) : Blk w' k t cs := by
  have e := ho.block k h.lt hS
  unfold Blk at h ⊢
  rw [e]; exact h
set_option maxHeartbeats 16000000 in
set_option maxRecDepth 100000 in
theorem step_calls (w : World) (g : Nat) (gl : Option Nat) (A : Option Addr) (b : Bk) (c : Nat) (a : SAct) (h : Two w g gl A b) :
    Calls Try.prog 29 #[.pointer (some ⟨g, 0, none⟩), rval A c b, .agg (scell a).toArray] w (Stepped w g gl A b.l.length (b.act a)) := by
  have HT := Lib.hid h
  have hok := Lib.hid h.book.ok
  obtain ⟨n, hn⟩ : ∃ n, Hid (b.l.length = n) := ⟨_, Lib.hid rfl⟩
  obtain ⟨nx, hnx⟩ : ∃ nx, Hid (b.next = nx) := ⟨_, Lib.hid rfl⟩
  obtain ⟨k, qi, qo, qp, qa, qpl, qb⟩ := a
  have hact0 : b.act ⟨k, ⟨qi, qo, qp, qa, qpl, qb⟩⟩ = if arnd k 5 = 2 then (b.amend qi qo qp qa).1 else if arnd k 5 = 3 then (b.cancel qi qo).1 else if arnd k 5 = 4 then b.clear.1 else (b.put ⟨qi, qo, qp, qa, qpl, qb⟩).1 := rfl
  unfold rval scell ocell
  show Calls Try.prog 29 #[.pointer (some ⟨g, 0, none⟩), .agg #[.slice A b.l.length c, .int .i64 b.next], .agg #[.int .i64 k, .int .i64 qi, .int .i64 qo, .int .i64 qp, .int .i64 qa, .int .i64 qpl, .bool qb]] w _
  rw [hn.out, hnx.out]
  have hb0 : Hid (Below w.heap.size w (((w.alloc (.cells #[.slice A n c, .int .i64 nx] 53)).alloc (.cells #[.int .i64 k, .int .i64 qi, .int .i64 qo, .int .i64 qp, .int .i64 qa, .int .i64 qpl, .bool qb] 57)).alloc (.cells #[.slice none 0 0, .int .i64 0] 53))) := Lib.hid ((((Below.refl _ _).alloc (Nat.le_refl _) _).alloc (by simp) _).alloc (by simp; omega) _)
  have B0 := Lib.hid (((Blk.new w 53 #[.slice A n c, .int .i64 nx]).alloc (.cells #[.int .i64 k, .int .i64 qi, .int .i64 qo, .int .i64 qp, .int .i64 qa, .int .i64 qpl, .bool qb] 57)).alloc (.cells #[.slice none 0 0, .int .i64 0] 53))
  have B1 : Hid (Blk (((w.alloc (.cells #[.slice A n c, .int .i64 nx] 53)).alloc (.cells #[.int .i64 k, .int .i64 qi, .int .i64 qo, .int .i64 qp, .int .i64 qa, .int .i64 qpl, .bool qb] 57)).alloc (.cells #[.slice none 0 0, .int .i64 0] 53)) (w.heap.size + 1) 57 #[.int .i64 k, .int .i64 qi, .int .i64 qo, .int .i64 qp, .int .i64 qa, .int .i64 qpl, .bool qb]) := Lib.hid (by
    have h := (Blk.new (w.alloc (.cells #[.slice A n c, .int .i64 nx] 53)) 57 #[.int .i64 k, .int .i64 qi, .int .i64 qo, .int .i64 qp, .int .i64 qa, .int .i64 qpl, .bool qb]).alloc (.cells #[.slice none 0 0, .int .i64 0] 53)
    rw [show (w.alloc (.cells #[.slice A n c, .int .i64 nx] 53)).heap.size = w.heap.size + 1 from by simp] at h
    exact h)
  have B2 : Hid (Blk (((w.alloc (.cells #[.slice A n c, .int .i64 nx] 53)).alloc (.cells #[.int .i64 k, .int .i64 qi, .int .i64 qo, .int .i64 qp, .int .i64 qa, .int .i64 qpl, .bool qb] 57)).alloc (.cells #[.slice none 0 0, .int .i64 0] 53)) (w.heap.size + 2) 53 #[.slice none 0 0, .int .i64 0]) := Lib.hid (by
    have h := Blk.new ((w.alloc (.cells #[.slice A n c, .int .i64 nx] 53)).alloc (.cells #[.int .i64 k, .int .i64 qi, .int .i64 qo, .int .i64 qp, .int .i64 qa, .int .i64 qpl, .bool qb] 57)) 53 #[.slice none 0 0, .int .i64 0]
    rw [show ((w.alloc (.cells #[.slice A n c, .int .i64 nx] 53)).alloc (.cells #[.int .i64 k, .int .i64 qi, .int .i64 qo, .int .i64 qp, .int .i64 qa, .int .i64 qpl, .bool qb] 57)).heap.size = w.heap.size + 2 from by simp] at h
    exact h)
  obtain ⟨gb, hgb⟩ : ∃ g, Hid (w.heap.size = g) := ⟨_, Lib.hid rfl⟩
  have HAr := Lib.hid (fun w => around5 k w)
  have hk5' := arnd_lt k (below := 5) (by decide)
  have hrow := Lib.hid h.row
  clear h
  rcases (show arnd k 5 = 0 ∨ arnd k 5 = 1 ∨ arnd k 5 = 2 ∨ arnd k 5 = 3 ∨ arnd k 5 = 4 by omega) with hk5 | hk5 | hk5 | hk5 | hk5 <;> rw [hk5] at HAr <;> clear hk5'
  · have hact := hact0
    rw [if_neg (by rw [hk5]; decide), if_neg (by rw [hk5]; decide), if_neg (by rw [hk5]; decide)] at hact
    have HRf0 := Lib.hid (fun wx (hb : Below w.heap.size w wx) => rput_calls wx A b c ⟨qi, qo, qp, qa, qpl, qb⟩ (hrow.out.below hb) hok.out)
    have HPf0 := Lib.hid (fun wx (hb : AtB wx g gl b) => put_calls wx g gl b hb ⟨qi, qo, qp, qa, qpl, qb⟩)
    unfold RTo at HRf0
    unfold oval at HRf0 HPf0
    simp only at HRf0 HPf0
    clear hact0 hk5
    obtain ⟨R, hR⟩ : ∃ R, Hid ((b.put ⟨qi, qo, qp, qa, qpl, qb⟩) = R) := ⟨_, Lib.hid rfl⟩
    rw [hR.out] at HRf0 HPf0
    rw [hR.out] at hact
    obtain ⟨B', E⟩ := R
    simp only at hact
    rw [hact]
    obtain ⟨n', hn'⟩ : ∃ n', Hid (B'.l.length = n') := ⟨_, Lib.hid rfl⟩
    obtain ⟨nx', hnx'⟩ : ∃ nx', Hid (B'.next = nx') := ⟨_, Lib.hid rfl⟩
    have HRf : Hid (∀ wx, Below w.heap.size w wx → Calls Try.prog 52 #[.agg #[.slice A n c, .int .i64 nx], .agg #[.int .i64 qi, .int .i64 qo, .int .i64 qp, .int .i64 qa, .int .i64 qpl, .bool qb]] wx fun e w' => ∃ A' c', e = .returned (.tuple #[.agg #[.slice A' n' c', .int .i64 nx'], .int .i64 E]) ∧ Below wx.heap.size wx w' ∧ ((A' = A ∧ c' = c ∧ B' = b) ∨ Mine wx w' 6 (.slice A' B'.l.length c') B'.l.length (ocells B'.l))) := Lib.hid fun wx hb => by
      have := HRf0.out wx hb
      unfold rval at this
      rw [hn.out, hnx.out] at this
      refine this.mono ?_
      rintro e w' ⟨A', c', rfl, h1, h2⟩
      refine ⟨A', c', ?_, h1, h2⟩
      simp only
      rw [hn'.out, hnx'.out]
    have HPf := HPf0
    have hEE : (E == E) = true := by simp
    clear hact
    go_enter Try.func29, Try.ntmps29
    go_upto_region 1 with (fail)
    rw [hgb.out] at B0 B1 B2 ⊢
    generalize World.alloc (World.alloc (World.alloc w _) _) _ = wy at hb0 B0 B1 B2 ⊢
    have hgg : Hid (g < gb ∧ (∀ x, gl = some x → x < gb)) := Lib.hid (by
      refine ⟨by have := HT.out.book.lt; have := hgb.out; omega, fun x e => ?_⟩
      obtain ⟨_, _, _, ho⟩ := HT.out.book.box
      have := ho.lt e
      have := hgb.out
      omega)
    have HX : Hid (∀ wx, Only (fun x => x = g ∨ some x = gl) wy wx → ((wx.cell? ⟨gb, 0, none⟩ = some (.slice A n c) ∧ wx.cell? ⟨gb, 1, none⟩ = some (.int .i64 nx)) ∧ (wx.cell? ⟨gb + 1, 0, none⟩ = some (.int .i64 k) ∧ wx.cell? ⟨gb + 1, 1, none⟩ = some (.int .i64 qi) ∧ wx.cell? ⟨gb + 1, 2, none⟩ = some (.int .i64 qo) ∧ wx.cell? ⟨gb + 1, 3, none⟩ = some (.int .i64 qp) ∧ wx.cell? ⟨gb + 1, 4, none⟩ = some (.int .i64 qa) ∧ wx.cell? ⟨gb + 1, 5, none⟩ = some (.int .i64 qpl) ∧ wx.cell? ⟨gb + 1, 6, none⟩ = some (.bool qb)) ∧ (wx.cell? ⟨gb + 2, 0, none⟩ = some (.slice none 0 0) ∧ wx.cell? ⟨gb + 2, 1, none⟩ = some (.int .i64 0)) ∧ wx.frozen? ⟨gb + 2, 0, none⟩ = false ∧ wx.frozen? ⟨gb + 2, 1, none⟩ = false)) := Lib.hid fun wx ho => by
      have far : ∀ x, gb ≤ x → ¬ (x = g ∨ some x = gl) := fun x hx hh => by
        rcases hh with hh | hh
        · have := hgg.out.1; omega
        · have := hgg.out.2 x hh.symm; omega
      have b0 := B0.out.only ho (far gb (Nat.le_refl _))
      have b1 := B1.out.only ho (far (gb + 1) (by omega))
      have b2 := B2.out.only ho (far (gb + 2) (by omega))
      exact ⟨⟨b0.cell 0, b0.cell 1⟩, ⟨b1.cell 0, b1.cell 1, b1.cell 2, b1.cell 3, b1.cell 4, b1.cell 5, b1.cell 6⟩, ⟨b2.cell 0, b2.cell 1⟩, b2.frozen 0, b2.frozen 1⟩
    have HGR : Hid (w.heap.size ≤ gb + 2 ∧ gb + 2 < wy.heap.size) := Lib.hid ⟨by rw [hgb.out]; omega, B2.out.lt⟩
    obtain ⟨⟨x0, x1⟩, ⟨a0, a1, a2, a3, a4, a5, a6⟩, ⟨z0, z1⟩, f0, f1⟩ := HX.out wy (Only.refl _ _)
    go_upto_region 13 with (first
      | (go_at_call 41; (with_reducible refine (HAr.out _).mono ?_); rintro e wa ⟨rfl, rfl⟩)
      | (go_at_call 52; (with_reducible refine (HRf.out _ hb0.out).mono ?_); rintro e w1 ⟨A', c', rfl, hh, hr⟩; have hb1 := Lib.hid hh; have HR1 := Lib.hid (Two.ref (HT.out.below hb0.out) hh hr); have HRfar := Lib.hid (row_far hrow.out HGR.out hr); have HRk := Lib.hid (row_keep hb0.out.size hr); rw [hn.out] at HRk; clear hh hr))
    have hbw1 := Lib.hid (below_next hb0.out hb1.out)
    have hbx : Hid (Below wy.heap.size wy (w1.alloc (.cells #[.slice A' n' c', .int .i64 nx'] 53))) := Lib.hid (hb1.out.alloc hb1.out.size _)
    have BN := Lib.hid (Blk.new w1 53 #[.slice A' n' c', .int .i64 nx'])
    have HRow := Lib.hid (HR1.out.1.below ((Below.refl _ _).alloc (Nat.le_refl _) (.cells #[.slice A' n' c', .int .i64 nx'] 53)))
    obtain ⟨gn, hgn⟩ : ∃ gn, Hid (w1.heap.size = gn) := ⟨_, Lib.hid rfl⟩
    have hgn2 : Hid (gb + 2 < gn) := Lib.hid (by have := HGR.out.2; have := hb1.out.size; have := hgn.out; omega)
    rw [hgn.out] at BN ⊢
    clear x0 x1 a0 a1 a2 a3 a4 a5 a6 z0 z1 f0 f1
    generalize World.alloc w1 _ = w2 at hbx BN HRow ⊢
    have HA2 := Lib.hid (HT.out.book.below (below_next hb0.out hbx.out))
    have HPx := Lib.hid (HPf.out w2.drew (HA2.out.below (Below.refl _ _).drew))
    have HN2 : Hid (∀ wx, Only (fun x => x = g ∨ some x = gl) w2 wx → ((wx.cell? ⟨gb, 0, none⟩ = some (.slice A n c) ∧ wx.cell? ⟨gb, 1, none⟩ = some (.int .i64 nx)) ∧ (wx.cell? ⟨gb + 1, 0, none⟩ = some (.int .i64 k) ∧ wx.cell? ⟨gb + 1, 1, none⟩ = some (.int .i64 qi) ∧ wx.cell? ⟨gb + 1, 2, none⟩ = some (.int .i64 qo) ∧ wx.cell? ⟨gb + 1, 3, none⟩ = some (.int .i64 qp) ∧ wx.cell? ⟨gb + 1, 4, none⟩ = some (.int .i64 qa) ∧ wx.cell? ⟨gb + 1, 5, none⟩ = some (.int .i64 qpl) ∧ wx.cell? ⟨gb + 1, 6, none⟩ = some (.bool qb)) ∧ (wx.cell? ⟨gb + 2, 0, none⟩ = some (.slice none 0 0) ∧ wx.cell? ⟨gb + 2, 1, none⟩ = some (.int .i64 0)) ∧ wx.frozen? ⟨gb + 2, 0, none⟩ = false ∧ wx.frozen? ⟨gb + 2, 1, none⟩ = false) ∧ wx.cell? ⟨gn, 0, none⟩ = some (.slice A' n' c') ∧ wx.cell? ⟨gn, 1, none⟩ = some (.int .i64 nx')) := Lib.hid fun wx ho => by
      have b := BN.out.only ho (fun hh => by
        rcases hh with hh | hh
        · have := hgg.out.1; have := hgn2.out; omega
        · have := hgg.out.2 _ hh.symm; have := hgn2.out; omega)
      exact ⟨HX.out wx ((Only.of_below hbx.out).trans ho fun x hx => .inl hx), b.cell 0, b.cell 1⟩
    obtain ⟨⟨⟨x0, x1⟩, ⟨a0, a1, a2, a3, a4, a5, a6⟩, ⟨z0, z1⟩, f0, f1⟩, n0, n1⟩ := HN2.out w2 (Only.refl _ _)
    have HFin : Hid (∀ w3, Turns w2.drew w3 g gl B' → ∀ v0 v1, Stepped w g gl A n B' (.returned (.tuple #[.agg #[.slice A' n' c', .int .i64 nx'], .bool true])) ((w3.setCell ⟨gb + 2, 0, none⟩ v0).setCell ⟨gb + 2, 1, none⟩ v1)) := Lib.hid fun w3 ht v0 v1 => by
      obtain ⟨gl', hT3, hO, hgl⟩ := Two.turn (L := B'.l) (HRow.out.below (Below.refl _ _).drew) HR1.out.2 ht rfl
      have hsz : w.heap.size ≤ w2.heap.size := (below_next hb0.out hbx.out).size
      have hgr2 : gb + 2 < w2.heap.size := Nat.lt_of_lt_of_le HGR.out.2 hbx.out.size
      refine ⟨A', c', gl', by rw [← hn'.out, ← hnx'.out]; rfl, hT3.far2 (by have := hgg.out.1; omega) (fun e => ?_) (fun bb off e hl e2 => ?_) v0 v1, ?_, ?_, HRk.out⟩
      · rcases hgl with rfl | ⟨x, hx, hx2⟩
        · have := hgg.out.2 _ e; omega
        · rw [hx] at e; cases e
          have : w2.heap.size ≤ gb + 2 := hx2
          omega
      · exact HRfar.out bb off e hl e2
      · have h1 : Only (fun x => x = g ∨ some x = gl) w w3 := (Only.of_below (below_next (below_next hb0.out hbx.out) (Below.refl _ _).drew)).trans hO fun x hx => .inl hx
        exact (h1.setCell (.inr HGR.out.1) v0).setCell (.inr HGR.out.1) v1
      · rcases hgl with rfl | ⟨x, hx, hx2⟩
        · exact .inl rfl
        · exact .inr ⟨x, hx, Nat.le_trans hsz hx2⟩
    have HSS : Hid (∀ wx, Only (fun x => x = g ∨ some x = gl) w2 wx → ((wx.cell? ⟨gb + 1, 0, none⟩ = some (.int .i64 k) ∧ wx.cell? ⟨gb + 1, 1, none⟩ = some (.int .i64 qi) ∧ wx.cell? ⟨gb + 1, 2, none⟩ = some (.int .i64 qo) ∧ wx.cell? ⟨gb + 1, 3, none⟩ = some (.int .i64 qp) ∧ wx.cell? ⟨gb + 1, 4, none⟩ = some (.int .i64 qa) ∧ wx.cell? ⟨gb + 1, 5, none⟩ = some (.int .i64 qpl) ∧ wx.cell? ⟨gb + 1, 6, none⟩ = some (.bool qb)) ∧ wx.cell? ⟨gn, 0, none⟩ = some (.slice A' n' c') ∧ wx.cell? ⟨gn, 1, none⟩ = some (.int .i64 nx'))) := Lib.hid fun wx ho => ⟨(HN2.out wx ho).1.2.1, (HN2.out wx ho).2⟩
    have HS2 : Hid (∀ (wx : World) (v0 v1 : Value) (wz : World), wz = ((wx.setCell ⟨gb + 2, 0, none⟩ v0).setCell ⟨gb + 2, 1, none⟩ v1) → ((wx.cell? ⟨gb + 1, 0, none⟩ = some (.int .i64 k) ∧ wx.cell? ⟨gb + 1, 1, none⟩ = some (.int .i64 qi) ∧ wx.cell? ⟨gb + 1, 2, none⟩ = some (.int .i64 qo) ∧ wx.cell? ⟨gb + 1, 3, none⟩ = some (.int .i64 qp) ∧ wx.cell? ⟨gb + 1, 4, none⟩ = some (.int .i64 qa) ∧ wx.cell? ⟨gb + 1, 5, none⟩ = some (.int .i64 qpl) ∧ wx.cell? ⟨gb + 1, 6, none⟩ = some (.bool qb)) ∧ wx.cell? ⟨gn, 0, none⟩ = some (.slice A' n' c') ∧ wx.cell? ⟨gn, 1, none⟩ = some (.int .i64 nx')) → ((wz.cell? ⟨gb + 1, 0, none⟩ = some (.int .i64 k) ∧ wz.cell? ⟨gb + 1, 1, none⟩ = some (.int .i64 qi) ∧ wz.cell? ⟨gb + 1, 2, none⟩ = some (.int .i64 qo) ∧ wz.cell? ⟨gb + 1, 3, none⟩ = some (.int .i64 qp) ∧ wz.cell? ⟨gb + 1, 4, none⟩ = some (.int .i64 qa) ∧ wz.cell? ⟨gb + 1, 5, none⟩ = some (.int .i64 qpl) ∧ wz.cell? ⟨gb + 1, 6, none⟩ = some (.bool qb)) ∧ wz.cell? ⟨gn, 0, none⟩ = some (.slice A' n' c') ∧ wz.cell? ⟨gn, 1, none⟩ = some (.int .i64 nx'))) := Lib.hid fun wx v0 v1 wz hwz ⟨⟨q0, q1, q2, q3, q4, q5, q6⟩, r0, r1⟩ => by
      subst hwz
      have := hgn2.out
      exact ⟨⟨far2 q0 (by omega) _ _, far2 q1 (by omega) _ _, far2 q2 (by omega) _ _, far2 q3 (by omega) _ _, far2 q4 (by omega) _ _, far2 q5 (by omega) _ _, far2 q6 (by omega) _ _⟩, far2 r0 (by omega) _ _, far2 r1 (by omega) _ _⟩
    clear x0 x1
    go_region_held3 (fun wx => ((wx.cell? ⟨gb + 1, 0, none⟩ = some (.int .i64 k) ∧ wx.cell? ⟨gb + 1, 1, none⟩ = some (.int .i64 qi) ∧ wx.cell? ⟨gb + 1, 2, none⟩ = some (.int .i64 qo) ∧ wx.cell? ⟨gb + 1, 3, none⟩ = some (.int .i64 qp) ∧ wx.cell? ⟨gb + 1, 4, none⟩ = some (.int .i64 qa) ∧ wx.cell? ⟨gb + 1, 5, none⟩ = some (.int .i64 qpl) ∧ wx.cell? ⟨gb + 1, 6, none⟩ = some (.bool qb)) ∧ wx.cell? ⟨gn, 0, none⟩ = some (.slice A' n' c') ∧ wx.cell? ⟨gn, 1, none⟩ = some (.int .i64 nx')))
      (first
        | exact HSS.out _ (Only.of_below (Below.refl _ _).drew)
        | exact HSS.out _ (Only.refl _ _)
        | (with_reducible exact HSS.out _ hO3.out)
        | exact HS2.out _ _ _ _ rfl (HSS.out _ hO3.out))
      ((go_at_call 32; (with_reducible refine HPx.out.mono ?_); rintro e w3 ⟨rfl, ht⟩; have HF3 := Lib.hid (HFin.out w3 ht); have hO3 : Hid (Only (fun x => x = g ∨ some x = gl) w2 w3) := Lib.hid (by obtain ⟨_, _, ho, _⟩ := ht; exact ⟨ho.os, ho.tape, ho.output, ho.size, ho.block⟩); clear ht; obtain ⟨⟨⟨x0', x1'⟩, ⟨a0', a1', a2', a3', a4', a5', a6'⟩, ⟨z0', z1'⟩, f0', f1'⟩, n0', n1'⟩ := HN2.out w3 hO3.out))
    all_goals
      go_wp2
      (try simp only [Exit.inBlock, Exit.then])
      refine bodyPost_ret (by simp [results, Try.results29, asAddr, go_sem, z0', z1']; rfl) rfl ?_
      exact HF3.out _ _
  · have hact := hact0
    rw [if_neg (by rw [hk5]; decide), if_neg (by rw [hk5]; decide), if_neg (by rw [hk5]; decide)] at hact
    have HRf0 := Lib.hid (fun wx (hb : Below w.heap.size w wx) => rput_calls wx A b c ⟨qi, qo, qp, qa, qpl, qb⟩ (hrow.out.below hb) hok.out)
    have HPf0 := Lib.hid (fun wx (hb : AtB wx g gl b) => put_calls wx g gl b hb ⟨qi, qo, qp, qa, qpl, qb⟩)
    unfold RTo at HRf0
    unfold oval at HRf0 HPf0
    simp only at HRf0 HPf0
    clear hact0 hk5
    obtain ⟨R, hR⟩ : ∃ R, Hid ((b.put ⟨qi, qo, qp, qa, qpl, qb⟩) = R) := ⟨_, Lib.hid rfl⟩
    rw [hR.out] at HRf0 HPf0
    rw [hR.out] at hact
    obtain ⟨B', E⟩ := R
    simp only at hact
    rw [hact]
    obtain ⟨n', hn'⟩ : ∃ n', Hid (B'.l.length = n') := ⟨_, Lib.hid rfl⟩
    obtain ⟨nx', hnx'⟩ : ∃ nx', Hid (B'.next = nx') := ⟨_, Lib.hid rfl⟩
    have HRf : Hid (∀ wx, Below w.heap.size w wx → Calls Try.prog 52 #[.agg #[.slice A n c, .int .i64 nx], .agg #[.int .i64 qi, .int .i64 qo, .int .i64 qp, .int .i64 qa, .int .i64 qpl, .bool qb]] wx fun e w' => ∃ A' c', e = .returned (.tuple #[.agg #[.slice A' n' c', .int .i64 nx'], .int .i64 E]) ∧ Below wx.heap.size wx w' ∧ ((A' = A ∧ c' = c ∧ B' = b) ∨ Mine wx w' 6 (.slice A' B'.l.length c') B'.l.length (ocells B'.l))) := Lib.hid fun wx hb => by
      have := HRf0.out wx hb
      unfold rval at this
      rw [hn.out, hnx.out] at this
      refine this.mono ?_
      rintro e w' ⟨A', c', rfl, h1, h2⟩
      refine ⟨A', c', ?_, h1, h2⟩
      simp only
      rw [hn'.out, hnx'.out]
    have HPf := HPf0
    have hEE : (E == E) = true := by simp
    clear hact
    go_enter Try.func29, Try.ntmps29
    go_upto_region 1 with (fail)
    rw [hgb.out] at B0 B1 B2 ⊢
    generalize World.alloc (World.alloc (World.alloc w _) _) _ = wy at hb0 B0 B1 B2 ⊢
    have hgg : Hid (g < gb ∧ (∀ x, gl = some x → x < gb)) := Lib.hid (by
      refine ⟨by have := HT.out.book.lt; have := hgb.out; omega, fun x e => ?_⟩
      obtain ⟨_, _, _, ho⟩ := HT.out.book.box
      have := ho.lt e
      have := hgb.out
      omega)
    have HX : Hid (∀ wx, Only (fun x => x = g ∨ some x = gl) wy wx → ((wx.cell? ⟨gb, 0, none⟩ = some (.slice A n c) ∧ wx.cell? ⟨gb, 1, none⟩ = some (.int .i64 nx)) ∧ (wx.cell? ⟨gb + 1, 0, none⟩ = some (.int .i64 k) ∧ wx.cell? ⟨gb + 1, 1, none⟩ = some (.int .i64 qi) ∧ wx.cell? ⟨gb + 1, 2, none⟩ = some (.int .i64 qo) ∧ wx.cell? ⟨gb + 1, 3, none⟩ = some (.int .i64 qp) ∧ wx.cell? ⟨gb + 1, 4, none⟩ = some (.int .i64 qa) ∧ wx.cell? ⟨gb + 1, 5, none⟩ = some (.int .i64 qpl) ∧ wx.cell? ⟨gb + 1, 6, none⟩ = some (.bool qb)) ∧ (wx.cell? ⟨gb + 2, 0, none⟩ = some (.slice none 0 0) ∧ wx.cell? ⟨gb + 2, 1, none⟩ = some (.int .i64 0)) ∧ wx.frozen? ⟨gb + 2, 0, none⟩ = false ∧ wx.frozen? ⟨gb + 2, 1, none⟩ = false)) := Lib.hid fun wx ho => by
      have far : ∀ x, gb ≤ x → ¬ (x = g ∨ some x = gl) := fun x hx hh => by
        rcases hh with hh | hh
        · have := hgg.out.1; omega
        · have := hgg.out.2 x hh.symm; omega
      have b0 := B0.out.only ho (far gb (Nat.le_refl _))
      have b1 := B1.out.only ho (far (gb + 1) (by omega))
      have b2 := B2.out.only ho (far (gb + 2) (by omega))
      exact ⟨⟨b0.cell 0, b0.cell 1⟩, ⟨b1.cell 0, b1.cell 1, b1.cell 2, b1.cell 3, b1.cell 4, b1.cell 5, b1.cell 6⟩, ⟨b2.cell 0, b2.cell 1⟩, b2.frozen 0, b2.frozen 1⟩
    have HGR : Hid (w.heap.size ≤ gb + 2 ∧ gb + 2 < wy.heap.size) := Lib.hid ⟨by rw [hgb.out]; omega, B2.out.lt⟩
    obtain ⟨⟨x0, x1⟩, ⟨a0, a1, a2, a3, a4, a5, a6⟩, ⟨z0, z1⟩, f0, f1⟩ := HX.out wy (Only.refl _ _)
    go_upto_region 13 with (first
      | (go_at_call 41; (with_reducible refine (HAr.out _).mono ?_); rintro e wa ⟨rfl, rfl⟩)
      | (go_at_call 52; (with_reducible refine (HRf.out _ hb0.out).mono ?_); rintro e w1 ⟨A', c', rfl, hh, hr⟩; have hb1 := Lib.hid hh; have HR1 := Lib.hid (Two.ref (HT.out.below hb0.out) hh hr); have HRfar := Lib.hid (row_far hrow.out HGR.out hr); have HRk := Lib.hid (row_keep hb0.out.size hr); rw [hn.out] at HRk; clear hh hr))
    have hbw1 := Lib.hid (below_next hb0.out hb1.out)
    have hbx : Hid (Below wy.heap.size wy (w1.alloc (.cells #[.slice A' n' c', .int .i64 nx'] 53))) := Lib.hid (hb1.out.alloc hb1.out.size _)
    have BN := Lib.hid (Blk.new w1 53 #[.slice A' n' c', .int .i64 nx'])
    have HRow := Lib.hid (HR1.out.1.below ((Below.refl _ _).alloc (Nat.le_refl _) (.cells #[.slice A' n' c', .int .i64 nx'] 53)))
    obtain ⟨gn, hgn⟩ : ∃ gn, Hid (w1.heap.size = gn) := ⟨_, Lib.hid rfl⟩
    have hgn2 : Hid (gb + 2 < gn) := Lib.hid (by have := HGR.out.2; have := hb1.out.size; have := hgn.out; omega)
    rw [hgn.out] at BN ⊢
    clear x0 x1 a0 a1 a2 a3 a4 a5 a6 z0 z1 f0 f1
    generalize World.alloc w1 _ = w2 at hbx BN HRow ⊢
    have HA2 := Lib.hid (HT.out.book.below (below_next hb0.out hbx.out))
    have HPx := Lib.hid (HPf.out w2.drew (HA2.out.below (Below.refl _ _).drew))
    have HN2 : Hid (∀ wx, Only (fun x => x = g ∨ some x = gl) w2 wx → ((wx.cell? ⟨gb, 0, none⟩ = some (.slice A n c) ∧ wx.cell? ⟨gb, 1, none⟩ = some (.int .i64 nx)) ∧ (wx.cell? ⟨gb + 1, 0, none⟩ = some (.int .i64 k) ∧ wx.cell? ⟨gb + 1, 1, none⟩ = some (.int .i64 qi) ∧ wx.cell? ⟨gb + 1, 2, none⟩ = some (.int .i64 qo) ∧ wx.cell? ⟨gb + 1, 3, none⟩ = some (.int .i64 qp) ∧ wx.cell? ⟨gb + 1, 4, none⟩ = some (.int .i64 qa) ∧ wx.cell? ⟨gb + 1, 5, none⟩ = some (.int .i64 qpl) ∧ wx.cell? ⟨gb + 1, 6, none⟩ = some (.bool qb)) ∧ (wx.cell? ⟨gb + 2, 0, none⟩ = some (.slice none 0 0) ∧ wx.cell? ⟨gb + 2, 1, none⟩ = some (.int .i64 0)) ∧ wx.frozen? ⟨gb + 2, 0, none⟩ = false ∧ wx.frozen? ⟨gb + 2, 1, none⟩ = false) ∧ wx.cell? ⟨gn, 0, none⟩ = some (.slice A' n' c') ∧ wx.cell? ⟨gn, 1, none⟩ = some (.int .i64 nx')) := Lib.hid fun wx ho => by
      have b := BN.out.only ho (fun hh => by
        rcases hh with hh | hh
        · have := hgg.out.1; have := hgn2.out; omega
        · have := hgg.out.2 _ hh.symm; have := hgn2.out; omega)
      exact ⟨HX.out wx ((Only.of_below hbx.out).trans ho fun x hx => .inl hx), b.cell 0, b.cell 1⟩
    obtain ⟨⟨⟨x0, x1⟩, ⟨a0, a1, a2, a3, a4, a5, a6⟩, ⟨z0, z1⟩, f0, f1⟩, n0, n1⟩ := HN2.out w2 (Only.refl _ _)
    have HFin : Hid (∀ w3, Turns w2.drew w3 g gl B' → ∀ v0 v1, Stepped w g gl A n B' (.returned (.tuple #[.agg #[.slice A' n' c', .int .i64 nx'], .bool true])) ((w3.setCell ⟨gb + 2, 0, none⟩ v0).setCell ⟨gb + 2, 1, none⟩ v1)) := Lib.hid fun w3 ht v0 v1 => by
      obtain ⟨gl', hT3, hO, hgl⟩ := Two.turn (L := B'.l) (HRow.out.below (Below.refl _ _).drew) HR1.out.2 ht rfl
      have hsz : w.heap.size ≤ w2.heap.size := (below_next hb0.out hbx.out).size
      have hgr2 : gb + 2 < w2.heap.size := Nat.lt_of_lt_of_le HGR.out.2 hbx.out.size
      refine ⟨A', c', gl', by rw [← hn'.out, ← hnx'.out]; rfl, hT3.far2 (by have := hgg.out.1; omega) (fun e => ?_) (fun bb off e hl e2 => ?_) v0 v1, ?_, ?_, HRk.out⟩
      · rcases hgl with rfl | ⟨x, hx, hx2⟩
        · have := hgg.out.2 _ e; omega
        · rw [hx] at e; cases e
          have : w2.heap.size ≤ gb + 2 := hx2
          omega
      · exact HRfar.out bb off e hl e2
      · have h1 : Only (fun x => x = g ∨ some x = gl) w w3 := (Only.of_below (below_next (below_next hb0.out hbx.out) (Below.refl _ _).drew)).trans hO fun x hx => .inl hx
        exact (h1.setCell (.inr HGR.out.1) v0).setCell (.inr HGR.out.1) v1
      · rcases hgl with rfl | ⟨x, hx, hx2⟩
        · exact .inl rfl
        · exact .inr ⟨x, hx, Nat.le_trans hsz hx2⟩
    have HSS : Hid (∀ wx, Only (fun x => x = g ∨ some x = gl) w2 wx → ((wx.cell? ⟨gb + 1, 0, none⟩ = some (.int .i64 k) ∧ wx.cell? ⟨gb + 1, 1, none⟩ = some (.int .i64 qi) ∧ wx.cell? ⟨gb + 1, 2, none⟩ = some (.int .i64 qo) ∧ wx.cell? ⟨gb + 1, 3, none⟩ = some (.int .i64 qp) ∧ wx.cell? ⟨gb + 1, 4, none⟩ = some (.int .i64 qa) ∧ wx.cell? ⟨gb + 1, 5, none⟩ = some (.int .i64 qpl) ∧ wx.cell? ⟨gb + 1, 6, none⟩ = some (.bool qb)) ∧ wx.cell? ⟨gn, 0, none⟩ = some (.slice A' n' c') ∧ wx.cell? ⟨gn, 1, none⟩ = some (.int .i64 nx'))) := Lib.hid fun wx ho => ⟨(HN2.out wx ho).1.2.1, (HN2.out wx ho).2⟩
    have HS2 : Hid (∀ (wx : World) (v0 v1 : Value) (wz : World), wz = ((wx.setCell ⟨gb + 2, 0, none⟩ v0).setCell ⟨gb + 2, 1, none⟩ v1) → ((wx.cell? ⟨gb + 1, 0, none⟩ = some (.int .i64 k) ∧ wx.cell? ⟨gb + 1, 1, none⟩ = some (.int .i64 qi) ∧ wx.cell? ⟨gb + 1, 2, none⟩ = some (.int .i64 qo) ∧ wx.cell? ⟨gb + 1, 3, none⟩ = some (.int .i64 qp) ∧ wx.cell? ⟨gb + 1, 4, none⟩ = some (.int .i64 qa) ∧ wx.cell? ⟨gb + 1, 5, none⟩ = some (.int .i64 qpl) ∧ wx.cell? ⟨gb + 1, 6, none⟩ = some (.bool qb)) ∧ wx.cell? ⟨gn, 0, none⟩ = some (.slice A' n' c') ∧ wx.cell? ⟨gn, 1, none⟩ = some (.int .i64 nx')) → ((wz.cell? ⟨gb + 1, 0, none⟩ = some (.int .i64 k) ∧ wz.cell? ⟨gb + 1, 1, none⟩ = some (.int .i64 qi) ∧ wz.cell? ⟨gb + 1, 2, none⟩ = some (.int .i64 qo) ∧ wz.cell? ⟨gb + 1, 3, none⟩ = some (.int .i64 qp) ∧ wz.cell? ⟨gb + 1, 4, none⟩ = some (.int .i64 qa) ∧ wz.cell? ⟨gb + 1, 5, none⟩ = some (.int .i64 qpl) ∧ wz.cell? ⟨gb + 1, 6, none⟩ = some (.bool qb)) ∧ wz.cell? ⟨gn, 0, none⟩ = some (.slice A' n' c') ∧ wz.cell? ⟨gn, 1, none⟩ = some (.int .i64 nx'))) := Lib.hid fun wx v0 v1 wz hwz ⟨⟨q0, q1, q2, q3, q4, q5, q6⟩, r0, r1⟩ => by
      subst hwz
      have := hgn2.out
      exact ⟨⟨far2 q0 (by omega) _ _, far2 q1 (by omega) _ _, far2 q2 (by omega) _ _, far2 q3 (by omega) _ _, far2 q4 (by omega) _ _, far2 q5 (by omega) _ _, far2 q6 (by omega) _ _⟩, far2 r0 (by omega) _ _, far2 r1 (by omega) _ _⟩
    clear x0 x1
    go_region_held3 (fun wx => ((wx.cell? ⟨gb + 1, 0, none⟩ = some (.int .i64 k) ∧ wx.cell? ⟨gb + 1, 1, none⟩ = some (.int .i64 qi) ∧ wx.cell? ⟨gb + 1, 2, none⟩ = some (.int .i64 qo) ∧ wx.cell? ⟨gb + 1, 3, none⟩ = some (.int .i64 qp) ∧ wx.cell? ⟨gb + 1, 4, none⟩ = some (.int .i64 qa) ∧ wx.cell? ⟨gb + 1, 5, none⟩ = some (.int .i64 qpl) ∧ wx.cell? ⟨gb + 1, 6, none⟩ = some (.bool qb)) ∧ wx.cell? ⟨gn, 0, none⟩ = some (.slice A' n' c') ∧ wx.cell? ⟨gn, 1, none⟩ = some (.int .i64 nx')))
      (first
        | exact HSS.out _ (Only.of_below (Below.refl _ _).drew)
        | exact HSS.out _ (Only.refl _ _)
        | (with_reducible exact HSS.out _ hO3.out)
        | exact HS2.out _ _ _ _ rfl (HSS.out _ hO3.out))
      ((go_at_call 32; (with_reducible refine HPx.out.mono ?_); rintro e w3 ⟨rfl, ht⟩; have HF3 := Lib.hid (HFin.out w3 ht); have hO3 : Hid (Only (fun x => x = g ∨ some x = gl) w2 w3) := Lib.hid (by obtain ⟨_, _, ho, _⟩ := ht; exact ⟨ho.os, ho.tape, ho.output, ho.size, ho.block⟩); clear ht; obtain ⟨⟨⟨x0', x1'⟩, ⟨a0', a1', a2', a3', a4', a5', a6'⟩, ⟨z0', z1'⟩, f0', f1'⟩, n0', n1'⟩ := HN2.out w3 hO3.out))
    all_goals
      go_wp2
      (try simp only [Exit.inBlock, Exit.then])
      refine bodyPost_ret (by simp [results, Try.results29, asAddr, go_sem, z0', z1']; rfl) rfl ?_
      exact HF3.out _ _
  · have hact := hact0
    rw [if_pos hk5] at hact
    have HRf0 := Lib.hid (fun wx (hb : Below w.heap.size w wx) => ramend_calls wx A b c qi qo qp qa (hrow.out.below hb) hok.out)
    have HPf0 := Lib.hid (fun wx (hb : AtB wx g gl b) => amend_calls wx g gl b hb qi qo qp qa)
    unfold RTo at HRf0
    clear hact0 hk5
    obtain ⟨R, hR⟩ : ∃ R, Hid ((b.amend qi qo qp qa) = R) := ⟨_, Lib.hid rfl⟩
    rw [hR.out] at HRf0 HPf0
    rw [hR.out] at hact
    obtain ⟨B', E⟩ := R
    simp only at hact
    rw [hact]
    obtain ⟨n', hn'⟩ : ∃ n', Hid (B'.l.length = n') := ⟨_, Lib.hid rfl⟩
    obtain ⟨nx', hnx'⟩ : ∃ nx', Hid (B'.next = nx') := ⟨_, Lib.hid rfl⟩
    have HRf : Hid (∀ wx, Below w.heap.size w wx → Calls Try.prog 49 #[.agg #[.slice A n c, .int .i64 nx], .int .i64 qi, .int .i64 qo, .int .i64 qp, .int .i64 qa] wx fun e w' => ∃ A' c', e = .returned (.tuple #[.agg #[.slice A' n' c', .int .i64 nx'], .int .i64 E]) ∧ Below wx.heap.size wx w' ∧ ((A' = A ∧ c' = c ∧ B' = b) ∨ Mine wx w' 6 (.slice A' B'.l.length c') B'.l.length (ocells B'.l))) := Lib.hid fun wx hb => by
      have := HRf0.out wx hb
      unfold rval at this
      rw [hn.out, hnx.out] at this
      refine this.mono ?_
      rintro e w' ⟨A', c', rfl, h1, h2⟩
      refine ⟨A', c', ?_, h1, h2⟩
      simp only
      rw [hn'.out, hnx'.out]
    have HPf := HPf0
    have hEE : (E == E) = true := by simp
    clear hact
    go_enter Try.func29, Try.ntmps29
    go_upto_region 1 with (fail)
    rw [hgb.out] at B0 B1 B2 ⊢
    generalize World.alloc (World.alloc (World.alloc w _) _) _ = wy at hb0 B0 B1 B2 ⊢
    have hgg : Hid (g < gb ∧ (∀ x, gl = some x → x < gb)) := Lib.hid (by
      refine ⟨by have := HT.out.book.lt; have := hgb.out; omega, fun x e => ?_⟩
      obtain ⟨_, _, _, ho⟩ := HT.out.book.box
      have := ho.lt e
      have := hgb.out
      omega)
    have HX : Hid (∀ wx, Only (fun x => x = g ∨ some x = gl) wy wx → ((wx.cell? ⟨gb, 0, none⟩ = some (.slice A n c) ∧ wx.cell? ⟨gb, 1, none⟩ = some (.int .i64 nx)) ∧ (wx.cell? ⟨gb + 1, 0, none⟩ = some (.int .i64 k) ∧ wx.cell? ⟨gb + 1, 1, none⟩ = some (.int .i64 qi) ∧ wx.cell? ⟨gb + 1, 2, none⟩ = some (.int .i64 qo) ∧ wx.cell? ⟨gb + 1, 3, none⟩ = some (.int .i64 qp) ∧ wx.cell? ⟨gb + 1, 4, none⟩ = some (.int .i64 qa) ∧ wx.cell? ⟨gb + 1, 5, none⟩ = some (.int .i64 qpl) ∧ wx.cell? ⟨gb + 1, 6, none⟩ = some (.bool qb)) ∧ (wx.cell? ⟨gb + 2, 0, none⟩ = some (.slice none 0 0) ∧ wx.cell? ⟨gb + 2, 1, none⟩ = some (.int .i64 0)) ∧ wx.frozen? ⟨gb + 2, 0, none⟩ = false ∧ wx.frozen? ⟨gb + 2, 1, none⟩ = false)) := Lib.hid fun wx ho => by
      have far : ∀ x, gb ≤ x → ¬ (x = g ∨ some x = gl) := fun x hx hh => by
        rcases hh with hh | hh
        · have := hgg.out.1; omega
        · have := hgg.out.2 x hh.symm; omega
      have b0 := B0.out.only ho (far gb (Nat.le_refl _))
      have b1 := B1.out.only ho (far (gb + 1) (by omega))
      have b2 := B2.out.only ho (far (gb + 2) (by omega))
      exact ⟨⟨b0.cell 0, b0.cell 1⟩, ⟨b1.cell 0, b1.cell 1, b1.cell 2, b1.cell 3, b1.cell 4, b1.cell 5, b1.cell 6⟩, ⟨b2.cell 0, b2.cell 1⟩, b2.frozen 0, b2.frozen 1⟩
    have HGR : Hid (w.heap.size ≤ gb + 2 ∧ gb + 2 < wy.heap.size) := Lib.hid ⟨by rw [hgb.out]; omega, B2.out.lt⟩
    obtain ⟨⟨x0, x1⟩, ⟨a0, a1, a2, a3, a4, a5, a6⟩, ⟨z0, z1⟩, f0, f1⟩ := HX.out wy (Only.refl _ _)
    go_upto_region 4 with (first
      | (go_at_call 41; (with_reducible refine (HAr.out _).mono ?_); rintro e wa ⟨rfl, rfl⟩)
      | (go_at_call 49; (with_reducible refine (HRf.out _ hb0.out).mono ?_); rintro e w1 ⟨A', c', rfl, hh, hr⟩; have hb1 := Lib.hid hh; have HR1 := Lib.hid (Two.ref (HT.out.below hb0.out) hh hr); have HRfar := Lib.hid (row_far hrow.out HGR.out hr); have HRk := Lib.hid (row_keep hb0.out.size hr); rw [hn.out] at HRk; clear hh hr))
    have hbw1 := Lib.hid (below_next hb0.out hb1.out)
    have hbx : Hid (Below wy.heap.size wy (w1.alloc (.cells #[.slice A' n' c', .int .i64 nx'] 53))) := Lib.hid (hb1.out.alloc hb1.out.size _)
    have BN := Lib.hid (Blk.new w1 53 #[.slice A' n' c', .int .i64 nx'])
    have HRow := Lib.hid (HR1.out.1.below ((Below.refl _ _).alloc (Nat.le_refl _) (.cells #[.slice A' n' c', .int .i64 nx'] 53)))
    obtain ⟨gn, hgn⟩ : ∃ gn, Hid (w1.heap.size = gn) := ⟨_, Lib.hid rfl⟩
    have hgn2 : Hid (gb + 2 < gn) := Lib.hid (by have := HGR.out.2; have := hb1.out.size; have := hgn.out; omega)
    rw [hgn.out] at BN ⊢
    clear x0 x1 a0 a1 a2 a3 a4 a5 a6 z0 z1 f0 f1
    generalize World.alloc w1 _ = w2 at hbx BN HRow ⊢
    have HA2 := Lib.hid (HT.out.book.below (below_next hb0.out hbx.out))
    have HPx := Lib.hid (HPf.out w2.drew (HA2.out.below (Below.refl _ _).drew))
    have HN2 : Hid (∀ wx, Only (fun x => x = g ∨ some x = gl) w2 wx → ((wx.cell? ⟨gb, 0, none⟩ = some (.slice A n c) ∧ wx.cell? ⟨gb, 1, none⟩ = some (.int .i64 nx)) ∧ (wx.cell? ⟨gb + 1, 0, none⟩ = some (.int .i64 k) ∧ wx.cell? ⟨gb + 1, 1, none⟩ = some (.int .i64 qi) ∧ wx.cell? ⟨gb + 1, 2, none⟩ = some (.int .i64 qo) ∧ wx.cell? ⟨gb + 1, 3, none⟩ = some (.int .i64 qp) ∧ wx.cell? ⟨gb + 1, 4, none⟩ = some (.int .i64 qa) ∧ wx.cell? ⟨gb + 1, 5, none⟩ = some (.int .i64 qpl) ∧ wx.cell? ⟨gb + 1, 6, none⟩ = some (.bool qb)) ∧ (wx.cell? ⟨gb + 2, 0, none⟩ = some (.slice none 0 0) ∧ wx.cell? ⟨gb + 2, 1, none⟩ = some (.int .i64 0)) ∧ wx.frozen? ⟨gb + 2, 0, none⟩ = false ∧ wx.frozen? ⟨gb + 2, 1, none⟩ = false) ∧ wx.cell? ⟨gn, 0, none⟩ = some (.slice A' n' c') ∧ wx.cell? ⟨gn, 1, none⟩ = some (.int .i64 nx')) := Lib.hid fun wx ho => by
      have b := BN.out.only ho (fun hh => by
        rcases hh with hh | hh
        · have := hgg.out.1; have := hgn2.out; omega
        · have := hgg.out.2 _ hh.symm; have := hgn2.out; omega)
      exact ⟨HX.out wx ((Only.of_below hbx.out).trans ho fun x hx => .inl hx), b.cell 0, b.cell 1⟩
    obtain ⟨⟨⟨x0, x1⟩, ⟨a0, a1, a2, a3, a4, a5, a6⟩, ⟨z0, z1⟩, f0, f1⟩, n0, n1⟩ := HN2.out w2 (Only.refl _ _)
    have HFin : Hid (∀ w3, Turns w2.drew w3 g gl B' → ∀ v0 v1, Stepped w g gl A n B' (.returned (.tuple #[.agg #[.slice A' n' c', .int .i64 nx'], .bool true])) ((w3.setCell ⟨gb + 2, 0, none⟩ v0).setCell ⟨gb + 2, 1, none⟩ v1)) := Lib.hid fun w3 ht v0 v1 => by
      obtain ⟨gl', hT3, hO, hgl⟩ := Two.turn (L := B'.l) (HRow.out.below (Below.refl _ _).drew) HR1.out.2 ht rfl
      have hsz : w.heap.size ≤ w2.heap.size := (below_next hb0.out hbx.out).size
      have hgr2 : gb + 2 < w2.heap.size := Nat.lt_of_lt_of_le HGR.out.2 hbx.out.size
      refine ⟨A', c', gl', by rw [← hn'.out, ← hnx'.out]; rfl, hT3.far2 (by have := hgg.out.1; omega) (fun e => ?_) (fun bb off e hl e2 => ?_) v0 v1, ?_, ?_, HRk.out⟩
      · rcases hgl with rfl | ⟨x, hx, hx2⟩
        · have := hgg.out.2 _ e; omega
        · rw [hx] at e; cases e
          have : w2.heap.size ≤ gb + 2 := hx2
          omega
      · exact HRfar.out bb off e hl e2
      · have h1 : Only (fun x => x = g ∨ some x = gl) w w3 := (Only.of_below (below_next (below_next hb0.out hbx.out) (Below.refl _ _).drew)).trans hO fun x hx => .inl hx
        exact (h1.setCell (.inr HGR.out.1) v0).setCell (.inr HGR.out.1) v1
      · rcases hgl with rfl | ⟨x, hx, hx2⟩
        · exact .inl rfl
        · exact .inr ⟨x, hx, Nat.le_trans hsz hx2⟩
    have HSS : Hid (∀ wx, Only (fun x => x = g ∨ some x = gl) w2 wx → ((wx.cell? ⟨gb + 1, 0, none⟩ = some (.int .i64 k) ∧ wx.cell? ⟨gb + 1, 1, none⟩ = some (.int .i64 qi) ∧ wx.cell? ⟨gb + 1, 2, none⟩ = some (.int .i64 qo) ∧ wx.cell? ⟨gb + 1, 3, none⟩ = some (.int .i64 qp) ∧ wx.cell? ⟨gb + 1, 4, none⟩ = some (.int .i64 qa) ∧ wx.cell? ⟨gb + 1, 5, none⟩ = some (.int .i64 qpl) ∧ wx.cell? ⟨gb + 1, 6, none⟩ = some (.bool qb)) ∧ wx.cell? ⟨gn, 0, none⟩ = some (.slice A' n' c') ∧ wx.cell? ⟨gn, 1, none⟩ = some (.int .i64 nx'))) := Lib.hid fun wx ho => ⟨(HN2.out wx ho).1.2.1, (HN2.out wx ho).2⟩
    have HS2 : Hid (∀ (wx : World) (v0 v1 : Value) (wz : World), wz = ((wx.setCell ⟨gb + 2, 0, none⟩ v0).setCell ⟨gb + 2, 1, none⟩ v1) → ((wx.cell? ⟨gb + 1, 0, none⟩ = some (.int .i64 k) ∧ wx.cell? ⟨gb + 1, 1, none⟩ = some (.int .i64 qi) ∧ wx.cell? ⟨gb + 1, 2, none⟩ = some (.int .i64 qo) ∧ wx.cell? ⟨gb + 1, 3, none⟩ = some (.int .i64 qp) ∧ wx.cell? ⟨gb + 1, 4, none⟩ = some (.int .i64 qa) ∧ wx.cell? ⟨gb + 1, 5, none⟩ = some (.int .i64 qpl) ∧ wx.cell? ⟨gb + 1, 6, none⟩ = some (.bool qb)) ∧ wx.cell? ⟨gn, 0, none⟩ = some (.slice A' n' c') ∧ wx.cell? ⟨gn, 1, none⟩ = some (.int .i64 nx')) → ((wz.cell? ⟨gb + 1, 0, none⟩ = some (.int .i64 k) ∧ wz.cell? ⟨gb + 1, 1, none⟩ = some (.int .i64 qi) ∧ wz.cell? ⟨gb + 1, 2, none⟩ = some (.int .i64 qo) ∧ wz.cell? ⟨gb + 1, 3, none⟩ = some (.int .i64 qp) ∧ wz.cell? ⟨gb + 1, 4, none⟩ = some (.int .i64 qa) ∧ wz.cell? ⟨gb + 1, 5, none⟩ = some (.int .i64 qpl) ∧ wz.cell? ⟨gb + 1, 6, none⟩ = some (.bool qb)) ∧ wz.cell? ⟨gn, 0, none⟩ = some (.slice A' n' c') ∧ wz.cell? ⟨gn, 1, none⟩ = some (.int .i64 nx'))) := Lib.hid fun wx v0 v1 wz hwz ⟨⟨q0, q1, q2, q3, q4, q5, q6⟩, r0, r1⟩ => by
      subst hwz
      have := hgn2.out
      exact ⟨⟨far2 q0 (by omega) _ _, far2 q1 (by omega) _ _, far2 q2 (by omega) _ _, far2 q3 (by omega) _ _, far2 q4 (by omega) _ _, far2 q5 (by omega) _ _, far2 q6 (by omega) _ _⟩, far2 r0 (by omega) _ _, far2 r1 (by omega) _ _⟩
    clear x0 x1
    go_region_held3 (fun wx => ((wx.cell? ⟨gb + 1, 0, none⟩ = some (.int .i64 k) ∧ wx.cell? ⟨gb + 1, 1, none⟩ = some (.int .i64 qi) ∧ wx.cell? ⟨gb + 1, 2, none⟩ = some (.int .i64 qo) ∧ wx.cell? ⟨gb + 1, 3, none⟩ = some (.int .i64 qp) ∧ wx.cell? ⟨gb + 1, 4, none⟩ = some (.int .i64 qa) ∧ wx.cell? ⟨gb + 1, 5, none⟩ = some (.int .i64 qpl) ∧ wx.cell? ⟨gb + 1, 6, none⟩ = some (.bool qb)) ∧ wx.cell? ⟨gn, 0, none⟩ = some (.slice A' n' c') ∧ wx.cell? ⟨gn, 1, none⟩ = some (.int .i64 nx')))
      (first
        | exact HSS.out _ (Only.of_below (Below.refl _ _).drew)
        | exact HSS.out _ (Only.refl _ _)
        | (with_reducible exact HSS.out _ hO3.out)
        | exact HS2.out _ _ _ _ rfl (HSS.out _ hO3.out))
      ((go_at_call 27; (with_reducible refine HPx.out.mono ?_); rintro e w3 ⟨rfl, ht⟩; have HF3 := Lib.hid (HFin.out w3 ht); have hO3 : Hid (Only (fun x => x = g ∨ some x = gl) w2 w3) := Lib.hid (by obtain ⟨_, _, ho, _⟩ := ht; exact ⟨ho.os, ho.tape, ho.output, ho.size, ho.block⟩); clear ht; obtain ⟨⟨⟨x0', x1'⟩, ⟨a0', a1', a2', a3', a4', a5', a6'⟩, ⟨z0', z1'⟩, f0', f1'⟩, n0', n1'⟩ := HN2.out w3 hO3.out))
    all_goals
      go_wp2
      (try simp only [Exit.inBlock, Exit.then])
      refine bodyPost_ret (by simp [results, Try.results29, asAddr, go_sem, z0', z1']; rfl) rfl ?_
      exact HF3.out _ _
  · have hact := hact0
    rw [if_neg (by rw [hk5]; decide), if_pos hk5] at hact
    have HRf0 := Lib.hid (fun wx (hb : Below w.heap.size w wx) => rcancel_calls wx A b c qi qo (hrow.out.below hb) hok.out)
    have HPf0 := Lib.hid (fun wx (hb : AtB wx g gl b) => cancel_calls wx g gl b hb qi qo)
    unfold RTo at HRf0
    clear hact0 hk5
    obtain ⟨R, hR⟩ : ∃ R, Hid ((b.cancel qi qo) = R) := ⟨_, Lib.hid rfl⟩
    rw [hR.out] at HRf0 HPf0
    rw [hR.out] at hact
    obtain ⟨B', E⟩ := R
    simp only at hact
    rw [hact]
    obtain ⟨n', hn'⟩ : ∃ n', Hid (B'.l.length = n') := ⟨_, Lib.hid rfl⟩
    obtain ⟨nx', hnx'⟩ : ∃ nx', Hid (B'.next = nx') := ⟨_, Lib.hid rfl⟩
    have HRf : Hid (∀ wx, Below w.heap.size w wx → Calls Try.prog 50 #[.agg #[.slice A n c, .int .i64 nx], .int .i64 qi, .int .i64 qo] wx fun e w' => ∃ A' c', e = .returned (.tuple #[.agg #[.slice A' n' c', .int .i64 nx'], .int .i64 E]) ∧ Below wx.heap.size wx w' ∧ ((A' = A ∧ c' = c ∧ B' = b) ∨ Mine wx w' 6 (.slice A' B'.l.length c') B'.l.length (ocells B'.l))) := Lib.hid fun wx hb => by
      have := HRf0.out wx hb
      unfold rval at this
      rw [hn.out, hnx.out] at this
      refine this.mono ?_
      rintro e w' ⟨A', c', rfl, h1, h2⟩
      refine ⟨A', c', ?_, h1, h2⟩
      simp only
      rw [hn'.out, hnx'.out]
    have HPf := HPf0
    have hEE : (E == E) = true := by simp
    clear hact
    go_enter Try.func29, Try.ntmps29
    go_upto_region 1 with (fail)
    rw [hgb.out] at B0 B1 B2 ⊢
    generalize World.alloc (World.alloc (World.alloc w _) _) _ = wy at hb0 B0 B1 B2 ⊢
    have hgg : Hid (g < gb ∧ (∀ x, gl = some x → x < gb)) := Lib.hid (by
      refine ⟨by have := HT.out.book.lt; have := hgb.out; omega, fun x e => ?_⟩
      obtain ⟨_, _, _, ho⟩ := HT.out.book.box
      have := ho.lt e
      have := hgb.out
      omega)
    have HX : Hid (∀ wx, Only (fun x => x = g ∨ some x = gl) wy wx → ((wx.cell? ⟨gb, 0, none⟩ = some (.slice A n c) ∧ wx.cell? ⟨gb, 1, none⟩ = some (.int .i64 nx)) ∧ (wx.cell? ⟨gb + 1, 0, none⟩ = some (.int .i64 k) ∧ wx.cell? ⟨gb + 1, 1, none⟩ = some (.int .i64 qi) ∧ wx.cell? ⟨gb + 1, 2, none⟩ = some (.int .i64 qo) ∧ wx.cell? ⟨gb + 1, 3, none⟩ = some (.int .i64 qp) ∧ wx.cell? ⟨gb + 1, 4, none⟩ = some (.int .i64 qa) ∧ wx.cell? ⟨gb + 1, 5, none⟩ = some (.int .i64 qpl) ∧ wx.cell? ⟨gb + 1, 6, none⟩ = some (.bool qb)) ∧ (wx.cell? ⟨gb + 2, 0, none⟩ = some (.slice none 0 0) ∧ wx.cell? ⟨gb + 2, 1, none⟩ = some (.int .i64 0)) ∧ wx.frozen? ⟨gb + 2, 0, none⟩ = false ∧ wx.frozen? ⟨gb + 2, 1, none⟩ = false)) := Lib.hid fun wx ho => by
      have far : ∀ x, gb ≤ x → ¬ (x = g ∨ some x = gl) := fun x hx hh => by
        rcases hh with hh | hh
        · have := hgg.out.1; omega
        · have := hgg.out.2 x hh.symm; omega
      have b0 := B0.out.only ho (far gb (Nat.le_refl _))
      have b1 := B1.out.only ho (far (gb + 1) (by omega))
      have b2 := B2.out.only ho (far (gb + 2) (by omega))
      exact ⟨⟨b0.cell 0, b0.cell 1⟩, ⟨b1.cell 0, b1.cell 1, b1.cell 2, b1.cell 3, b1.cell 4, b1.cell 5, b1.cell 6⟩, ⟨b2.cell 0, b2.cell 1⟩, b2.frozen 0, b2.frozen 1⟩
    have HGR : Hid (w.heap.size ≤ gb + 2 ∧ gb + 2 < wy.heap.size) := Lib.hid ⟨by rw [hgb.out]; omega, B2.out.lt⟩
    obtain ⟨⟨x0, x1⟩, ⟨a0, a1, a2, a3, a4, a5, a6⟩, ⟨z0, z1⟩, f0, f1⟩ := HX.out wy (Only.refl _ _)
    go_upto_region 7 with (first
      | (go_at_call 41; (with_reducible refine (HAr.out _).mono ?_); rintro e wa ⟨rfl, rfl⟩)
      | (go_at_call 50; (with_reducible refine (HRf.out _ hb0.out).mono ?_); rintro e w1 ⟨A', c', rfl, hh, hr⟩; have hb1 := Lib.hid hh; have HR1 := Lib.hid (Two.ref (HT.out.below hb0.out) hh hr); have HRfar := Lib.hid (row_far hrow.out HGR.out hr); have HRk := Lib.hid (row_keep hb0.out.size hr); rw [hn.out] at HRk; clear hh hr))
    have hbw1 := Lib.hid (below_next hb0.out hb1.out)
    have hbx : Hid (Below wy.heap.size wy (w1.alloc (.cells #[.slice A' n' c', .int .i64 nx'] 53))) := Lib.hid (hb1.out.alloc hb1.out.size _)
    have BN := Lib.hid (Blk.new w1 53 #[.slice A' n' c', .int .i64 nx'])
    have HRow := Lib.hid (HR1.out.1.below ((Below.refl _ _).alloc (Nat.le_refl _) (.cells #[.slice A' n' c', .int .i64 nx'] 53)))
    obtain ⟨gn, hgn⟩ : ∃ gn, Hid (w1.heap.size = gn) := ⟨_, Lib.hid rfl⟩
    have hgn2 : Hid (gb + 2 < gn) := Lib.hid (by have := HGR.out.2; have := hb1.out.size; have := hgn.out; omega)
    rw [hgn.out] at BN ⊢
    clear x0 x1 a0 a1 a2 a3 a4 a5 a6 z0 z1 f0 f1
    generalize World.alloc w1 _ = w2 at hbx BN HRow ⊢
    have HA2 := Lib.hid (HT.out.book.below (below_next hb0.out hbx.out))
    have HPx := Lib.hid (HPf.out w2.drew (HA2.out.below (Below.refl _ _).drew))
    have HN2 : Hid (∀ wx, Only (fun x => x = g ∨ some x = gl) w2 wx → ((wx.cell? ⟨gb, 0, none⟩ = some (.slice A n c) ∧ wx.cell? ⟨gb, 1, none⟩ = some (.int .i64 nx)) ∧ (wx.cell? ⟨gb + 1, 0, none⟩ = some (.int .i64 k) ∧ wx.cell? ⟨gb + 1, 1, none⟩ = some (.int .i64 qi) ∧ wx.cell? ⟨gb + 1, 2, none⟩ = some (.int .i64 qo) ∧ wx.cell? ⟨gb + 1, 3, none⟩ = some (.int .i64 qp) ∧ wx.cell? ⟨gb + 1, 4, none⟩ = some (.int .i64 qa) ∧ wx.cell? ⟨gb + 1, 5, none⟩ = some (.int .i64 qpl) ∧ wx.cell? ⟨gb + 1, 6, none⟩ = some (.bool qb)) ∧ (wx.cell? ⟨gb + 2, 0, none⟩ = some (.slice none 0 0) ∧ wx.cell? ⟨gb + 2, 1, none⟩ = some (.int .i64 0)) ∧ wx.frozen? ⟨gb + 2, 0, none⟩ = false ∧ wx.frozen? ⟨gb + 2, 1, none⟩ = false) ∧ wx.cell? ⟨gn, 0, none⟩ = some (.slice A' n' c') ∧ wx.cell? ⟨gn, 1, none⟩ = some (.int .i64 nx')) := Lib.hid fun wx ho => by
      have b := BN.out.only ho (fun hh => by
        rcases hh with hh | hh
        · have := hgg.out.1; have := hgn2.out; omega
        · have := hgg.out.2 _ hh.symm; have := hgn2.out; omega)
      exact ⟨HX.out wx ((Only.of_below hbx.out).trans ho fun x hx => .inl hx), b.cell 0, b.cell 1⟩
    obtain ⟨⟨⟨x0, x1⟩, ⟨a0, a1, a2, a3, a4, a5, a6⟩, ⟨z0, z1⟩, f0, f1⟩, n0, n1⟩ := HN2.out w2 (Only.refl _ _)
    have HFin : Hid (∀ w3, Turns w2.drew w3 g gl B' → ∀ v0 v1, Stepped w g gl A n B' (.returned (.tuple #[.agg #[.slice A' n' c', .int .i64 nx'], .bool true])) ((w3.setCell ⟨gb + 2, 0, none⟩ v0).setCell ⟨gb + 2, 1, none⟩ v1)) := Lib.hid fun w3 ht v0 v1 => by
      obtain ⟨gl', hT3, hO, hgl⟩ := Two.turn (L := B'.l) (HRow.out.below (Below.refl _ _).drew) HR1.out.2 ht rfl
      have hsz : w.heap.size ≤ w2.heap.size := (below_next hb0.out hbx.out).size
      have hgr2 : gb + 2 < w2.heap.size := Nat.lt_of_lt_of_le HGR.out.2 hbx.out.size
      refine ⟨A', c', gl', by rw [← hn'.out, ← hnx'.out]; rfl, hT3.far2 (by have := hgg.out.1; omega) (fun e => ?_) (fun bb off e hl e2 => ?_) v0 v1, ?_, ?_, HRk.out⟩
      · rcases hgl with rfl | ⟨x, hx, hx2⟩
        · have := hgg.out.2 _ e; omega
        · rw [hx] at e; cases e
          have : w2.heap.size ≤ gb + 2 := hx2
          omega
      · exact HRfar.out bb off e hl e2
      · have h1 : Only (fun x => x = g ∨ some x = gl) w w3 := (Only.of_below (below_next (below_next hb0.out hbx.out) (Below.refl _ _).drew)).trans hO fun x hx => .inl hx
        exact (h1.setCell (.inr HGR.out.1) v0).setCell (.inr HGR.out.1) v1
      · rcases hgl with rfl | ⟨x, hx, hx2⟩
        · exact .inl rfl
        · exact .inr ⟨x, hx, Nat.le_trans hsz hx2⟩
    have HSS : Hid (∀ wx, Only (fun x => x = g ∨ some x = gl) w2 wx → ((wx.cell? ⟨gb + 1, 0, none⟩ = some (.int .i64 k) ∧ wx.cell? ⟨gb + 1, 1, none⟩ = some (.int .i64 qi) ∧ wx.cell? ⟨gb + 1, 2, none⟩ = some (.int .i64 qo) ∧ wx.cell? ⟨gb + 1, 3, none⟩ = some (.int .i64 qp) ∧ wx.cell? ⟨gb + 1, 4, none⟩ = some (.int .i64 qa) ∧ wx.cell? ⟨gb + 1, 5, none⟩ = some (.int .i64 qpl) ∧ wx.cell? ⟨gb + 1, 6, none⟩ = some (.bool qb)) ∧ wx.cell? ⟨gn, 0, none⟩ = some (.slice A' n' c') ∧ wx.cell? ⟨gn, 1, none⟩ = some (.int .i64 nx'))) := Lib.hid fun wx ho => ⟨(HN2.out wx ho).1.2.1, (HN2.out wx ho).2⟩
    have HS2 : Hid (∀ (wx : World) (v0 v1 : Value) (wz : World), wz = ((wx.setCell ⟨gb + 2, 0, none⟩ v0).setCell ⟨gb + 2, 1, none⟩ v1) → ((wx.cell? ⟨gb + 1, 0, none⟩ = some (.int .i64 k) ∧ wx.cell? ⟨gb + 1, 1, none⟩ = some (.int .i64 qi) ∧ wx.cell? ⟨gb + 1, 2, none⟩ = some (.int .i64 qo) ∧ wx.cell? ⟨gb + 1, 3, none⟩ = some (.int .i64 qp) ∧ wx.cell? ⟨gb + 1, 4, none⟩ = some (.int .i64 qa) ∧ wx.cell? ⟨gb + 1, 5, none⟩ = some (.int .i64 qpl) ∧ wx.cell? ⟨gb + 1, 6, none⟩ = some (.bool qb)) ∧ wx.cell? ⟨gn, 0, none⟩ = some (.slice A' n' c') ∧ wx.cell? ⟨gn, 1, none⟩ = some (.int .i64 nx')) → ((wz.cell? ⟨gb + 1, 0, none⟩ = some (.int .i64 k) ∧ wz.cell? ⟨gb + 1, 1, none⟩ = some (.int .i64 qi) ∧ wz.cell? ⟨gb + 1, 2, none⟩ = some (.int .i64 qo) ∧ wz.cell? ⟨gb + 1, 3, none⟩ = some (.int .i64 qp) ∧ wz.cell? ⟨gb + 1, 4, none⟩ = some (.int .i64 qa) ∧ wz.cell? ⟨gb + 1, 5, none⟩ = some (.int .i64 qpl) ∧ wz.cell? ⟨gb + 1, 6, none⟩ = some (.bool qb)) ∧ wz.cell? ⟨gn, 0, none⟩ = some (.slice A' n' c') ∧ wz.cell? ⟨gn, 1, none⟩ = some (.int .i64 nx'))) := Lib.hid fun wx v0 v1 wz hwz ⟨⟨q0, q1, q2, q3, q4, q5, q6⟩, r0, r1⟩ => by
      subst hwz
      have := hgn2.out
      exact ⟨⟨far2 q0 (by omega) _ _, far2 q1 (by omega) _ _, far2 q2 (by omega) _ _, far2 q3 (by omega) _ _, far2 q4 (by omega) _ _, far2 q5 (by omega) _ _, far2 q6 (by omega) _ _⟩, far2 r0 (by omega) _ _, far2 r1 (by omega) _ _⟩
    clear x0 x1
    go_region_held3 (fun wx => ((wx.cell? ⟨gb + 1, 0, none⟩ = some (.int .i64 k) ∧ wx.cell? ⟨gb + 1, 1, none⟩ = some (.int .i64 qi) ∧ wx.cell? ⟨gb + 1, 2, none⟩ = some (.int .i64 qo) ∧ wx.cell? ⟨gb + 1, 3, none⟩ = some (.int .i64 qp) ∧ wx.cell? ⟨gb + 1, 4, none⟩ = some (.int .i64 qa) ∧ wx.cell? ⟨gb + 1, 5, none⟩ = some (.int .i64 qpl) ∧ wx.cell? ⟨gb + 1, 6, none⟩ = some (.bool qb)) ∧ wx.cell? ⟨gn, 0, none⟩ = some (.slice A' n' c') ∧ wx.cell? ⟨gn, 1, none⟩ = some (.int .i64 nx')))
      (first
        | exact HSS.out _ (Only.of_below (Below.refl _ _).drew)
        | exact HSS.out _ (Only.refl _ _)
        | (with_reducible exact HSS.out _ hO3.out)
        | exact HS2.out _ _ _ _ rfl (HSS.out _ hO3.out))
      ((go_at_call 33; (with_reducible refine HPx.out.mono ?_); rintro e w3 ⟨rfl, ht⟩; have HF3 := Lib.hid (HFin.out w3 ht); have hO3 : Hid (Only (fun x => x = g ∨ some x = gl) w2 w3) := Lib.hid (by obtain ⟨_, _, ho, _⟩ := ht; exact ⟨ho.os, ho.tape, ho.output, ho.size, ho.block⟩); clear ht; obtain ⟨⟨⟨x0', x1'⟩, ⟨a0', a1', a2', a3', a4', a5', a6'⟩, ⟨z0', z1'⟩, f0', f1'⟩, n0', n1'⟩ := HN2.out w3 hO3.out))
    all_goals
      go_wp2
      (try simp only [Exit.inBlock, Exit.then])
      refine bodyPost_ret (by simp [results, Try.results29, asAddr, go_sem, z0', z1']; rfl) rfl ?_
      exact HF3.out _ _
  · have hact := hact0
    rw [if_neg (by rw [hk5]; decide), if_neg (by rw [hk5]; decide), if_pos hk5] at hact
    rw [hact]
    have HRf := Lib.hid (fun wx (hb : Below w.heap.size w wx) => rclear_calls wx A b c (hrow.out.below hb) hok.out)
    have HPf := Lib.hid (fun wx (hb : AtB wx g gl b) => clear_calls wx g gl b hb)
    have hff : b.clear.2.2.length ≤ 128 := Ca.fills_few _ _ _
    unfold RClr RClrTo rval at HRf
    unfold Cleared at HPf
    rw [hn.out, hnx.out] at HRf
    clear hact0 hk5 hact
    generalize b.clear = C at HRf HPf hff ⊢
    obtain ⟨B', ⟨P, N⟩, F⟩ := C
    simp only at HRf HPf hff ⊢
    obtain ⟨n', hn'⟩ : ∃ n', Hid (B'.l.length = n') := ⟨_, Lib.hid rfl⟩
    obtain ⟨nx', hnx'⟩ : ∃ nx', Hid (B'.next = nx') := ⟨_, Lib.hid rfl⟩
    obtain ⟨kk, hk⟩ : ∃ kk, Hid (F.length = kk) := ⟨_, Lib.hid rfl⟩
    have HSf : Hid (∀ wx A1 c1 A2 c2, FRow wx A1 F → FRow wx A2 F → Calls Try.prog 17 #[.slice A1 kk c1, .slice A2 kk c2] wx (Told wx (.bool true))) := Lib.hid fun wx A1 c1 A2 c2 h1 h2 => by
      have := samefills_calls wx A1 A2 F c1 c2 h1 h2 (by omega)
      rwa [hk.out] at this
    rw [hk.out] at HRf HPf
    rw [hnx'.out] at HRf
    have hPP : (P == P) = true := by simp
    have hNN : (N == N) = true := by simp
    go_enter Try.func29, Try.ntmps29
    go_upto_region 1 with (fail)
    rw [hgb.out] at B0 B1 B2 ⊢
    generalize World.alloc (World.alloc (World.alloc w _) _) _ = wy at hb0 B0 B1 B2 ⊢
    have hgg : Hid (g < gb ∧ (∀ x, gl = some x → x < gb)) := Lib.hid (by
      refine ⟨by have := HT.out.book.lt; have := hgb.out; omega, fun x e => ?_⟩
      obtain ⟨_, _, _, ho⟩ := HT.out.book.box
      have := ho.lt e
      have := hgb.out
      omega)
    have HX : Hid (∀ wx, Only (fun x => x = g ∨ some x = gl) wy wx → ((wx.cell? ⟨gb, 0, none⟩ = some (.slice A n c) ∧ wx.cell? ⟨gb, 1, none⟩ = some (.int .i64 nx)) ∧ (wx.cell? ⟨gb + 1, 0, none⟩ = some (.int .i64 k) ∧ wx.cell? ⟨gb + 1, 1, none⟩ = some (.int .i64 qi) ∧ wx.cell? ⟨gb + 1, 2, none⟩ = some (.int .i64 qo) ∧ wx.cell? ⟨gb + 1, 3, none⟩ = some (.int .i64 qp) ∧ wx.cell? ⟨gb + 1, 4, none⟩ = some (.int .i64 qa) ∧ wx.cell? ⟨gb + 1, 5, none⟩ = some (.int .i64 qpl) ∧ wx.cell? ⟨gb + 1, 6, none⟩ = some (.bool qb)) ∧ (wx.cell? ⟨gb + 2, 0, none⟩ = some (.slice none 0 0) ∧ wx.cell? ⟨gb + 2, 1, none⟩ = some (.int .i64 0)) ∧ wx.frozen? ⟨gb + 2, 0, none⟩ = false ∧ wx.frozen? ⟨gb + 2, 1, none⟩ = false)) := Lib.hid fun wx ho => by
      have far : ∀ x, gb ≤ x → ¬ (x = g ∨ some x = gl) := fun x hx hh => by
        rcases hh with hh | hh
        · have := hgg.out.1; omega
        · have := hgg.out.2 x hh.symm; omega
      have b0 := B0.out.only ho (far gb (Nat.le_refl _))
      have b1 := B1.out.only ho (far (gb + 1) (by omega))
      have b2 := B2.out.only ho (far (gb + 2) (by omega))
      exact ⟨⟨b0.cell 0, b0.cell 1⟩, ⟨b1.cell 0, b1.cell 1, b1.cell 2, b1.cell 3, b1.cell 4, b1.cell 5, b1.cell 6⟩, ⟨b2.cell 0, b2.cell 1⟩, b2.frozen 0, b2.frozen 1⟩
    have HGR : Hid (w.heap.size ≤ gb + 2 ∧ gb + 2 < wy.heap.size) := Lib.hid ⟨by rw [hgb.out]; omega, B2.out.lt⟩
    obtain ⟨⟨x0, x1⟩, ⟨a0, a1, a2, a3, a4, a5, a6⟩, ⟨z0, z1⟩, f0, f1⟩ := HX.out wy (Only.refl _ _)
    go_upto_region 10 with (first
      | (go_at_call 41; (with_reducible refine (HAr.out _).mono ?_); rintro e wa ⟨rfl, rfl⟩)
      | (go_at_call 51; (with_reducible refine (HRf.out _ hb0.out).mono ?_); rintro e w1 ⟨A', c', Af, cf, rfl, hmA, hmF, hh⟩; rw [hn'.out]; have hb1 := Lib.hid hh; have HMF := Lib.hid hmF; have HR1 := Lib.hid (Two.ref (c := c) (b' := B') (HT.out.below hb0.out) hh (.inr hmA)); have HRfar := Lib.hid (row_far (c := c) (b' := B') hrow.out HGR.out (.inr hmA)); have HRk := Lib.hid (row_keep (c := c) (b := b) (b' := B') (A := A) hb0.out.size (.inr hmA)); rw [hn.out] at HRk; clear hh hmA hmF))
    have hbw1 := Lib.hid (below_next hb0.out hb1.out)
    have hbx : Hid (Below wy.heap.size wy (w1.alloc (.cells #[.slice A' n' c', .int .i64 nx'] 53))) := Lib.hid (hb1.out.alloc hb1.out.size _)
    have BN := Lib.hid (Blk.new w1 53 #[.slice A' n' c', .int .i64 nx'])
    have HRow := Lib.hid (HR1.out.1.below ((Below.refl _ _).alloc (Nat.le_refl _) (.cells #[.slice A' n' c', .int .i64 nx'] 53)))
    have HMF2 := Lib.hid (HMF.out.alloc (.cells #[.slice A' n' c', .int .i64 nx'] 53))
    obtain ⟨gn, hgn⟩ : ∃ gn, Hid (w1.heap.size = gn) := ⟨_, Lib.hid rfl⟩
    have hgn2 : Hid (gb + 2 < gn) := Lib.hid (by have := HGR.out.2; have := hb1.out.size; have := hgn.out; omega)
    rw [hgn.out] at BN ⊢
    clear x0 x1 a0 a1 a2 a3 a4 a5 a6 z0 z1 f0 f1
    generalize World.alloc w1 _ = w2 at hbx BN HRow HMF2 ⊢
    have HA2 := Lib.hid (HT.out.book.below (below_next hb0.out hbx.out))
    have HPx := Lib.hid (HPf.out w2 HA2.out)
    have HN2 : Hid (∀ wx, Only (fun x => x = g ∨ some x = gl) w2 wx → ((wx.cell? ⟨gb, 0, none⟩ = some (.slice A n c) ∧ wx.cell? ⟨gb, 1, none⟩ = some (.int .i64 nx)) ∧ (wx.cell? ⟨gb + 1, 0, none⟩ = some (.int .i64 k) ∧ wx.cell? ⟨gb + 1, 1, none⟩ = some (.int .i64 qi) ∧ wx.cell? ⟨gb + 1, 2, none⟩ = some (.int .i64 qo) ∧ wx.cell? ⟨gb + 1, 3, none⟩ = some (.int .i64 qp) ∧ wx.cell? ⟨gb + 1, 4, none⟩ = some (.int .i64 qa) ∧ wx.cell? ⟨gb + 1, 5, none⟩ = some (.int .i64 qpl) ∧ wx.cell? ⟨gb + 1, 6, none⟩ = some (.bool qb)) ∧ (wx.cell? ⟨gb + 2, 0, none⟩ = some (.slice none 0 0) ∧ wx.cell? ⟨gb + 2, 1, none⟩ = some (.int .i64 0)) ∧ wx.frozen? ⟨gb + 2, 0, none⟩ = false ∧ wx.frozen? ⟨gb + 2, 1, none⟩ = false) ∧ wx.cell? ⟨gn, 0, none⟩ = some (.slice A' n' c') ∧ wx.cell? ⟨gn, 1, none⟩ = some (.int .i64 nx')) := Lib.hid fun wx ho => by
      have b := BN.out.only ho (fun hh => by
        rcases hh with hh | hh
        · have := hgg.out.1; have := hgn2.out; omega
        · have := hgg.out.2 _ hh.symm; have := hgn2.out; omega)
      exact ⟨HX.out wx ((Only.of_below hbx.out).trans ho fun x hx => .inl hx), b.cell 0, b.cell 1⟩
    have HFin : Hid (∀ w3, Turns w2 w3 g gl B' → ∀ v0 v1, Stepped w g gl A n B' (.returned (.tuple #[.agg #[.slice A' n' c', .int .i64 nx'], .bool true])) ((w3.setCell ⟨gb + 2, 0, none⟩ v0).setCell ⟨gb + 2, 1, none⟩ v1)) := Lib.hid fun w3 ht v0 v1 => by
      obtain ⟨gl', hT3, hO, hgl⟩ := Two.turn (L := B'.l) HRow.out HR1.out.2 ht rfl
      have hsz : w.heap.size ≤ w2.heap.size := (below_next hb0.out hbx.out).size
      have hgr2 : gb + 2 < w2.heap.size := Nat.lt_of_lt_of_le HGR.out.2 hbx.out.size
      refine ⟨A', c', gl', by rw [← hn'.out, ← hnx'.out]; rfl, hT3.far2 (by have := hgg.out.1; omega) (fun e => ?_) (fun bb off e hl e2 => ?_) v0 v1, ?_, ?_, HRk.out⟩
      · rcases hgl with rfl | ⟨x, hx, hx2⟩
        · have := hgg.out.2 _ e; omega
        · rw [hx] at e; cases e
          have : w2.heap.size ≤ gb + 2 := hx2
          omega
      · exact HRfar.out bb off e hl e2
      · have h1 : Only (fun x => x = g ∨ some x = gl) w w3 := (Only.of_below (below_next hb0.out hbx.out)).trans hO fun x hx => .inl hx
        exact (h1.setCell (.inr HGR.out.1) v0).setCell (.inr HGR.out.1) v1
      · rcases hgl with rfl | ⟨x, hx, hx2⟩
        · exact .inl rfl
        · exact .inr ⟨x, hx, Nat.le_trans hsz hx2⟩
    go_upto_region 11 with (go_at_call 24; (with_reducible refine HPx.out.mono ?_); rintro e w3 ⟨Ag, cg, rfl, hmG, hat, hon⟩; have HMG := Lib.hid (hmG.frow hk.out).2; have HT3 := Lib.hid hat; have HO3 := Lib.hid hon; clear hmG hat hon)
    have HFA : Hid (FRow w3 Af F) := Lib.hid ((HMF2.out.only HO3.out fun x hx => by
      rcases hx with rfl | hx
      · exact Nat.lt_of_lt_of_le (by have := hgg.out.1; omega) (Nat.le_of_lt HGR.out.2)
      · have := hgg.out.2 x hx.symm
        have := HGR.out.2
        omega).frow hk.out).2
    have HN3 := Lib.hid (fun wx (hb : Below w3.heap.size w3 wx) => HN2.out wx (HO3.out.then_below hb))
    have HTn := Lib.hid (fun wx (hb : Below w3.heap.size w3 wx) => show Turns w2 wx g gl B' from ⟨gl, HT3.out.below hb, HO3.out.then_below hb, .inl rfl⟩)
    have HSx := Lib.hid (HSf.out w3.drew Af cf Ag cg (HFA.out.below (Below.refl _ _).drew) (HMG.out.below (Below.refl _ _).drew))
    have HS2 : Hid (∀ (wx : World) (v0 v1 : Value) (wz : World), wz = ((wx.setCell ⟨gb + 2, 0, none⟩ v0).setCell ⟨gb + 2, 1, none⟩ v1) → (wx.cell? ⟨gn, 0, none⟩ = some (.slice A' n' c') ∧ wx.cell? ⟨gn, 1, none⟩ = some (.int .i64 nx')) → (wz.cell? ⟨gn, 0, none⟩ = some (.slice A' n' c') ∧ wz.cell? ⟨gn, 1, none⟩ = some (.int .i64 nx'))) := Lib.hid fun wx v0 v1 wz hwz ⟨r0, r1⟩ => by
      subst hwz
      have := hgn2.out
      exact ⟨far2 r0 (by omega) _ _, far2 r1 (by omega) _ _⟩
    obtain ⟨n0, n1⟩ := (HN3.out w3 (Below.refl _ _)).2
    go_region_held3 (fun wx => wx.cell? ⟨gn, 0, none⟩ = some (.slice A' n' c') ∧ wx.cell? ⟨gn, 1, none⟩ = some (.int .i64 nx'))
      (first
        | exact (HN3.out _ (Below.refl _ _).drew).2
        | exact (HN3.out _ (Below.refl _ _)).2
        | (with_reducible exact (HN3.out _ hb4.out).2)
        | exact HS2.out _ _ _ _ rfl (HN3.out _ hb4.out).2)
      ((go_at_call 17; (with_reducible refine HSx.out.mono ?_); rintro e w4 ⟨rfl, hh⟩; have hb4 : Hid (Below w3.heap.size w3 w4) := Lib.hid (below_next (Below.refl _ _).drew hh); have HF3 := Lib.hid (HFin.out w4 (HTn.out w4 hb4.out)); clear hh; obtain ⟨⟨-, -, ⟨z0', z1'⟩, f0', f1'⟩, n0', n1'⟩ := HN3.out w4 hb4.out))
    all_goals
      go_wp2
      (try simp only [Exit.inBlock, Exit.then])
      refine bodyPost_ret (by simp [results, Try.results29, asAddr, go_sem, z0', z1']; rfl) rfl ?_
      exact HF3.out _ _
end Go.Proofs.Ytilbhnloelgpdaa
