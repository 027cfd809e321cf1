/- The reference's book: Put. -/
import Derived.Test.YtilbhnloelgpdaaRefB
namespace Go.Proofs.Ytilbhnloelgpdaa
open Go.RowKit
set_option linter.unusedVariables false
set_option linter.unusedSimpArgs false
theorem far2 {w : World} {g k j : Nat} {u : Value} (h : w.cell? ⟨k, j, none⟩ = some u) (hne : k ≠ g) (v0 v1 : Value) : ((w.setCell ⟨g, 0, none⟩ v0).setCell ⟨g, 1, none⟩ v1).cell? ⟨k, j, none⟩ = some u := by
  rw [World.cell?_of_block (a := ⟨k, j, none⟩) (heap_setCell_other _ ⟨g, 1, none⟩ k v1 (by rintro rfl; exact hne rfl)), World.cell?_of_block (a := ⟨k, j, none⟩) (heap_setCell_other _ ⟨g, 0, none⟩ k v0 (by rintro rfl; exact hne rfl))]
  exact h
set_option maxHeartbeats 16000000 in
set_option maxRecDepth 100000 in
theorem rput_calls (w : World) (A : Option Addr) (b : Bk) (c : Nat) (q : Ord) (h : ORow w A b.l) (hok : b.Ok) :
    Calls Try.prog 52 #[rval A c b, oval q] w (RTo w A c b (b.put q)) := by
  have hl := hok.few
  have hn0 := hok.next0
  have HRr := Lib.hid (fun wx => rright_calls wx q)
  have HAt0 := Lib.hid (fun wx (hb : Below w.heap.size w wx) => rat_calls wx A b.l c b.next q.id (h.below hb) hl)
  have HWo := Lib.hid (fun wx (hb : Below w.heap.size w wx) => without_none wx A b.l c (h.below hb) hl)
  unfold Listed at HWo
  have hpu : Hid (b.put q = if ¬ (q.right = true ∧ q.place = 0) then (b, 1) else if Bk.ix b.l q.id < b.l.length then (b, 63) else if b.l.length = 64 ∨ 9007199254740992 ≤ b.next then (b, 2) else (⟨b.l ++ [{ q with place := b.next }], b.next + 1⟩, 0)) := Lib.hid rfl
  obtain ⟨n, hn⟩ : ∃ n, Hid (b.l.length = n) := ⟨_, Lib.hid rfl⟩
  obtain ⟨nx, hnx⟩ : ∃ nx, Hid (b.next = nx) := ⟨_, Lib.hid rfl⟩
  obtain ⟨R, hR⟩ : ∃ R, Hid (b.put q = R) := ⟨_, Lib.hid rfl⟩
  rw [hR.out] at hpu ⊢
  unfold rval
  rw [hn.out, hnx.out] at hpu HAt0 ⊢
  rw [hn.out] at hl HWo
  rw [hnx.out] at hn0
  obtain ⟨qi, qo, qp, qa, qpl, qb⟩ := q
  unfold oval at HRr ⊢
  simp only at HRr hpu HAt0 ⊢
  obtain ⟨r, hr⟩ : ∃ r, Hid (Ord.right ⟨qi, qo, qp, qa, qpl, qb⟩ = r) := ⟨_, Lib.hid rfl⟩
  rw [hr.out] at HRr hpu
  have hb0 : Hid (Below w.heap.size w (((w.alloc (.cells #[.slice A n c, .int .i64 nx] 53)).alloc (.cells #[.int .i64 qi, .int .i64 qo, .int .i64 qp, .int .i64 qa, .int .i64 qpl, .bool qb] 33)).alloc (.cells #[.slice none 0 0, .int .i64 0] 53))) := Lib.hid ((((Below.refl _ _).alloc (Nat.le_refl _) _).alloc (by simp) _).alloc (by simp; omega) _)
  have B0 := Lib.hid (((Blk.new w 53 #[.slice A n c, .int .i64 nx]).alloc (.cells #[.int .i64 qi, .int .i64 qo, .int .i64 qp, .int .i64 qa, .int .i64 qpl, .bool qb] 33)).alloc (.cells #[.slice none 0 0, .int .i64 0] 53))
  have B1 : Hid (Blk (((w.alloc (.cells #[.slice A n c, .int .i64 nx] 53)).alloc (.cells #[.int .i64 qi, .int .i64 qo, .int .i64 qp, .int .i64 qa, .int .i64 qpl, .bool qb] 33)).alloc (.cells #[.slice none 0 0, .int .i64 0] 53)) (w.heap.size + 1) 33 #[.int .i64 qi, .int .i64 qo, .int .i64 qp, .int .i64 qa, .int .i64 qpl, .bool qb]) := Lib.hid (by
    have h := (Blk.new (w.alloc (.cells #[.slice A n c, .int .i64 nx] 53)) 33 #[.int .i64 qi, .int .i64 qo, .int .i64 qp, .int .i64 qa, .int .i64 qpl, .bool qb]).alloc (.cells #[.slice none 0 0, .int .i64 0] 53)
    rw [show (w.alloc (.cells #[.slice A n c, .int .i64 nx] 53)).heap.size = w.heap.size + 1 from by simp] at h
    exact h)
  have B2 : Hid (Blk (((w.alloc (.cells #[.slice A n c, .int .i64 nx] 53)).alloc (.cells #[.int .i64 qi, .int .i64 qo, .int .i64 qp, .int .i64 qa, .int .i64 qpl, .bool qb] 33)).alloc (.cells #[.slice none 0 0, .int .i64 0] 53)) (w.heap.size + 2) 53 #[.slice none 0 0, .int .i64 0]) := Lib.hid (by
    have h := Blk.new ((w.alloc (.cells #[.slice A n c, .int .i64 nx] 53)).alloc (.cells #[.int .i64 qi, .int .i64 qo, .int .i64 qp, .int .i64 qa, .int .i64 qpl, .bool qb] 33)) 53 #[.slice none 0 0, .int .i64 0]
    rw [show ((w.alloc (.cells #[.slice A n c, .int .i64 nx] 53)).alloc (.cells #[.int .i64 qi, .int .i64 qo, .int .i64 qp, .int .i64 qa, .int .i64 qpl, .bool qb] 33)).heap.size = w.heap.size + 2 from by simp] at h
    exact h)
  obtain ⟨gb, hgb⟩ : ∃ g, Hid (w.heap.size = g) := ⟨_, Lib.hid rfl⟩
  have H := Lib.hid h
  clear h hok
  cases r with
  | false =>
    have hE := Lib.hid (by have := hpu.out; rwa [if_pos (by simp)] at this)
    clear hpu
    go_enter Try.func52, Try.ntmps52
    go_upto_region 1 with (fail)
    rw [hgb.out] at B0 B1 B2 ⊢
    generalize World.alloc (World.alloc (World.alloc w _) _) _ = wy at hb0 B0 B1 B2 ⊢
    have HX : Hid (∀ wx, Below wy.heap.size wy wx → (wx.cell? ⟨gb, 0, none⟩ = some (.slice A n c) ∧ wx.cell? ⟨gb, 1, none⟩ = some (.int .i64 nx)) ∧ (wx.cell? ⟨gb + 1, 0, none⟩ = some (.int .i64 qi) ∧ wx.cell? ⟨gb + 1, 1, none⟩ = some (.int .i64 qo) ∧ wx.cell? ⟨gb + 1, 2, none⟩ = some (.int .i64 qp) ∧ wx.cell? ⟨gb + 1, 3, none⟩ = some (.int .i64 qa) ∧ wx.cell? ⟨gb + 1, 4, none⟩ = some (.int .i64 qpl) ∧ wx.cell? ⟨gb + 1, 5, none⟩ = some (.bool qb)) ∧ ((wx.cell? ⟨gb + 2, 0, none⟩ = some (.slice none 0 0) ∧ wx.cell? ⟨gb + 2, 1, none⟩ = some (.int .i64 0)) ∧ wx.frozen? ⟨gb + 2, 0, none⟩ = false ∧ wx.frozen? ⟨gb + 2, 1, none⟩ = false)) := Lib.hid fun wx hb => by
      have b0 := B0.out.below hb B0.out.lt
      have b1 := B1.out.below hb B1.out.lt
      have b2 := B2.out.below hb B2.out.lt
      exact ⟨⟨b0.cell 0, b0.cell 1⟩, ⟨b1.cell 0, b1.cell 1, b1.cell 2, b1.cell 3, b1.cell 4, b1.cell 5⟩, ⟨b2.cell 0, b2.cell 1⟩, b2.frozen 0, b2.frozen 1⟩
    have HGR : Hid (w.heap.size ≤ gb + 2 ∧ gb + 2 < wy.heap.size) := Lib.hid ⟨by rw [hgb.out]; omega, B2.out.lt⟩
    obtain ⟨⟨x0, x1⟩, ⟨c0, c1, c2, c3, c4, c5⟩, ⟨z0, z1⟩, f0, f1⟩ := HX.out wy (Below.refl _ _)
    go_wp2_with
      (go_at_call 37; (with_reducible refine (HRr.out _).mono ?_); rintro e w1 ⟨rfl, hh⟩; have hb1 := Lib.hid hh; clear hh; obtain ⟨⟨x0', x1'⟩, ⟨c0', c1', c2', c3', c4', c5'⟩, ⟨z0', z1'⟩, f0', f1'⟩ := HX.out w1 hb1.out)
    (try simp only [Exit.inBlock, Exit.then])
    refine bodyPost_ret (by simp [results, Try.results52, asAddr, go_sem, z0', z1']; rfl) rfl ?_
    exact rto_same (below_next hb0.out hb1.out) HGR.out.1 hn.out hnx.out hE.out _ _
  | true =>
    by_cases hpl : qpl = 0
    · subst hpl
      have hpl0 : ((0 : Int) != 0) = false := rfl
      by_cases hix : Bk.ix b.l qi < b.l.length
      · have hixH := Lib.hid hix
        have HAt : Hid (∀ wx, Below w.heap.size w wx → Calls Try.prog 53 #[.agg #[.slice A n c, .int .i64 nx], .int .i64 qi] wx (Told wx (.int .i64 (Bk.ix b.l qi : Int)))) := Lib.hid fun wx hb => by
          have := HAt0.out wx hb
          rwa [at_in hix] at this
        have hE := Lib.hid (by have := hpu.out; rwa [if_neg (by simp), if_pos (by rw [← hn.out]; exact hix)] at this)
        obtain ⟨i, hi⟩ : ∃ i, Hid (Bk.ix b.l qi = i) := ⟨_, Lib.hid rfl⟩
        rw [hi.out] at HAt
        have i0 : (0 : Int) ≤ (i : Int) := by omega
        clear hpu hix HAt0
        go_enter Try.func52, Try.ntmps52
        go_upto_region 1 with (fail)
        rw [hgb.out] at B0 B1 B2 ⊢
        generalize World.alloc (World.alloc (World.alloc w _) _) _ = wy at hb0 B0 B1 B2 ⊢
        have HX : Hid (∀ wx, Below wy.heap.size wy wx → (wx.cell? ⟨gb, 0, none⟩ = some (.slice A n c) ∧ wx.cell? ⟨gb, 1, none⟩ = some (.int .i64 nx)) ∧ (wx.cell? ⟨gb + 1, 0, none⟩ = some (.int .i64 qi) ∧ wx.cell? ⟨gb + 1, 1, none⟩ = some (.int .i64 qo) ∧ wx.cell? ⟨gb + 1, 2, none⟩ = some (.int .i64 qp) ∧ wx.cell? ⟨gb + 1, 3, none⟩ = some (.int .i64 qa) ∧ wx.cell? ⟨gb + 1, 4, none⟩ = some (.int .i64 0) ∧ wx.cell? ⟨gb + 1, 5, none⟩ = some (.bool qb)) ∧ ((wx.cell? ⟨gb + 2, 0, none⟩ = some (.slice none 0 0) ∧ wx.cell? ⟨gb + 2, 1, none⟩ = some (.int .i64 0)) ∧ wx.frozen? ⟨gb + 2, 0, none⟩ = false ∧ wx.frozen? ⟨gb + 2, 1, none⟩ = false)) := Lib.hid fun wx hb => by
          have b0 := B0.out.below hb B0.out.lt
          have b1 := B1.out.below hb B1.out.lt
          have b2 := B2.out.below hb B2.out.lt
          exact ⟨⟨b0.cell 0, b0.cell 1⟩, ⟨b1.cell 0, b1.cell 1, b1.cell 2, b1.cell 3, b1.cell 4, b1.cell 5⟩, ⟨b2.cell 0, b2.cell 1⟩, b2.frozen 0, b2.frozen 1⟩
        have HGR : Hid (w.heap.size ≤ gb + 2 ∧ gb + 2 < wy.heap.size) := Lib.hid ⟨by rw [hgb.out]; omega, B2.out.lt⟩
        obtain ⟨⟨x0, x1⟩, ⟨c0, c1, c2, c3, c4, c5⟩, ⟨z0, z1⟩, f0, f1⟩ := HX.out wy (Below.refl _ _)
        go_upto_region 3 with
          (go_at_call 37; (with_reducible refine (HRr.out _).mono ?_); rintro e w1 ⟨rfl, hh⟩; have hb1 := Lib.hid hh; clear hh; obtain ⟨⟨x0', x1'⟩, ⟨c0', c1', c2', c3', c4', c5'⟩, ⟨z0', z1'⟩, f0', f1'⟩ := HX.out w1 hb1.out)
        go_wp2_with
          (go_at_call 53; (with_reducible refine (HAt.out _ (below_next hb0.out hb1.out)).mono ?_); rintro e w2 ⟨rfl, hh⟩; have hb2 := Lib.hid (below_next hb1.out hh); clear hh; obtain ⟨⟨y0, y1⟩, ⟨k0, k1, k2, k3, k4, k5⟩, ⟨z0'', z1''⟩, f0'', f1''⟩ := HX.out w2 hb2.out)
        (try simp only [Exit.inBlock, Exit.then])
        refine bodyPost_ret (by simp [results, Try.results52, asAddr, go_sem, z0'', z1'']; rfl) rfl ?_
        exact rto_same (below_next hb0.out hb2.out) HGR.out.1 hn.out hnx.out hE.out _ _
      · have HAt : Hid (∀ wx, Below w.heap.size w wx → Calls Try.prog 53 #[.agg #[.slice A n c, .int .i64 nx], .int .i64 qi] wx (Told wx (.int .i64 (-1)))) := Lib.hid fun wx hb => by
          have := HAt0.out wx hb
          rwa [at_out hix] at this
        have hE0 := Lib.hid (by have := hpu.out; rwa [if_neg (by simp), if_neg (by rw [← hn.out]; exact hix)] at this)
        clear hpu hix HAt0
        by_cases hfu : n = 64 ∨ 9007199254740992 ≤ nx
        · have hE := Lib.hid (by have := hE0.out; rwa [if_pos hfu] at this)
          by_cases hf1 : n = 64
          · have hf1I : (64 : Int) ≤ (n : Int) := by omega
            have hf1H := Lib.hid hf1
            clear hfu hE0 hf1
            go_enter Try.func52, Try.ntmps52
            go_upto_region 1 with (fail)
            rw [hgb.out] at B0 B1 B2 ⊢
            generalize World.alloc (World.alloc (World.alloc w _) _) _ = wy at hb0 B0 B1 B2 ⊢
            have HX : Hid (∀ wx, Below wy.heap.size wy wx → (wx.cell? ⟨gb, 0, none⟩ = some (.slice A n c) ∧ wx.cell? ⟨gb, 1, none⟩ = some (.int .i64 nx)) ∧ (wx.cell? ⟨gb + 1, 0, none⟩ = some (.int .i64 qi) ∧ wx.cell? ⟨gb + 1, 1, none⟩ = some (.int .i64 qo) ∧ wx.cell? ⟨gb + 1, 2, none⟩ = some (.int .i64 qp) ∧ wx.cell? ⟨gb + 1, 3, none⟩ = some (.int .i64 qa) ∧ wx.cell? ⟨gb + 1, 4, none⟩ = some (.int .i64 0) ∧ wx.cell? ⟨gb + 1, 5, none⟩ = some (.bool qb)) ∧ ((wx.cell? ⟨gb + 2, 0, none⟩ = some (.slice none 0 0) ∧ wx.cell? ⟨gb + 2, 1, none⟩ = some (.int .i64 0)) ∧ wx.frozen? ⟨gb + 2, 0, none⟩ = false ∧ wx.frozen? ⟨gb + 2, 1, none⟩ = false)) := Lib.hid fun wx hb => by
              have b0 := B0.out.below hb B0.out.lt
              have b1 := B1.out.below hb B1.out.lt
              have b2 := B2.out.below hb B2.out.lt
              exact ⟨⟨b0.cell 0, b0.cell 1⟩, ⟨b1.cell 0, b1.cell 1, b1.cell 2, b1.cell 3, b1.cell 4, b1.cell 5⟩, ⟨b2.cell 0, b2.cell 1⟩, b2.frozen 0, b2.frozen 1⟩
            have HGR : Hid (w.heap.size ≤ gb + 2 ∧ gb + 2 < wy.heap.size) := Lib.hid ⟨by rw [hgb.out]; omega, B2.out.lt⟩
            obtain ⟨⟨x0, x1⟩, ⟨c0, c1, c2, c3, c4, c5⟩, ⟨z0, z1⟩, f0, f1⟩ := HX.out wy (Below.refl _ _)
            go_upto_region 3 with
              (go_at_call 37; (with_reducible refine (HRr.out _).mono ?_); rintro e w1 ⟨rfl, hh⟩; have hb1 := Lib.hid hh; clear hh; obtain ⟨⟨x0', x1'⟩, ⟨c0', c1', c2', c3', c4', c5'⟩, ⟨z0', z1'⟩, f0', f1'⟩ := HX.out w1 hb1.out)
            go_wp2_with
              (go_at_call 53; (with_reducible refine (HAt.out _ (below_next hb0.out hb1.out)).mono ?_); rintro e w2 ⟨rfl, hh⟩; have hb2 := Lib.hid (below_next hb1.out hh); clear hh; obtain ⟨⟨y0, y1⟩, ⟨k0, k1, k2, k3, k4, k5⟩, ⟨z0'', z1''⟩, f0'', f1''⟩ := HX.out w2 hb2.out)
            (try simp only [Exit.inBlock, Exit.then])
            refine bodyPost_ret (by simp [results, Try.results52, asAddr, go_sem, z0'', z1'']; rfl) rfl ?_
            exact rto_same (below_next hb0.out hb2.out) HGR.out.1 hn.out hnx.out hE.out _ _
          · have hf1I : ¬ (64 : Int) ≤ (n : Int) := by omega
            have hf2 : 9007199254740992 ≤ nx := by omega
            clear hfu hE0 hf1
            go_enter Try.func52, Try.ntmps52
            go_upto_region 1 with (fail)
            rw [hgb.out] at B0 B1 B2 ⊢
            generalize World.alloc (World.alloc (World.alloc w _) _) _ = wy at hb0 B0 B1 B2 ⊢
            have HX : Hid (∀ wx, Below wy.heap.size wy wx → (wx.cell? ⟨gb, 0, none⟩ = some (.slice A n c) ∧ wx.cell? ⟨gb, 1, none⟩ = some (.int .i64 nx)) ∧ (wx.cell? ⟨gb + 1, 0, none⟩ = some (.int .i64 qi) ∧ wx.cell? ⟨gb + 1, 1, none⟩ = some (.int .i64 qo) ∧ wx.cell? ⟨gb + 1, 2, none⟩ = some (.int .i64 qp) ∧ wx.cell? ⟨gb + 1, 3, none⟩ = some (.int .i64 qa) ∧ wx.cell? ⟨gb + 1, 4, none⟩ = some (.int .i64 0) ∧ wx.cell? ⟨gb + 1, 5, none⟩ = some (.bool qb)) ∧ ((wx.cell? ⟨gb + 2, 0, none⟩ = some (.slice none 0 0) ∧ wx.cell? ⟨gb + 2, 1, none⟩ = some (.int .i64 0)) ∧ wx.frozen? ⟨gb + 2, 0, none⟩ = false ∧ wx.frozen? ⟨gb + 2, 1, none⟩ = false)) := Lib.hid fun wx hb => by
              have b0 := B0.out.below hb B0.out.lt
              have b1 := B1.out.below hb B1.out.lt
              have b2 := B2.out.below hb B2.out.lt
              exact ⟨⟨b0.cell 0, b0.cell 1⟩, ⟨b1.cell 0, b1.cell 1, b1.cell 2, b1.cell 3, b1.cell 4, b1.cell 5⟩, ⟨b2.cell 0, b2.cell 1⟩, b2.frozen 0, b2.frozen 1⟩
            have HGR : Hid (w.heap.size ≤ gb + 2 ∧ gb + 2 < wy.heap.size) := Lib.hid ⟨by rw [hgb.out]; omega, B2.out.lt⟩
            obtain ⟨⟨x0, x1⟩, ⟨c0, c1, c2, c3, c4, c5⟩, ⟨z0, z1⟩, f0, f1⟩ := HX.out wy (Below.refl _ _)
            go_upto_region 3 with
              (go_at_call 37; (with_reducible refine (HRr.out _).mono ?_); rintro e w1 ⟨rfl, hh⟩; have hb1 := Lib.hid hh; clear hh; obtain ⟨⟨x0', x1'⟩, ⟨c0', c1', c2', c3', c4', c5'⟩, ⟨z0', z1'⟩, f0', f1'⟩ := HX.out w1 hb1.out)
            go_wp2_with
              (go_at_call 53; (with_reducible refine (HAt.out _ (below_next hb0.out hb1.out)).mono ?_); rintro e w2 ⟨rfl, hh⟩; have hb2 := Lib.hid (below_next hb1.out hh); clear hh; obtain ⟨⟨y0, y1⟩, ⟨k0, k1, k2, k3, k4, k5⟩, ⟨z0'', z1''⟩, f0'', f1''⟩ := HX.out w2 hb2.out)
            (try simp only [Exit.inBlock, Exit.then])
            refine bodyPost_ret (by simp [results, Try.results52, asAddr, go_sem, z0'', z1'']; rfl) rfl ?_
            exact rto_same (below_next hb0.out hb2.out) HGR.out.1 hn.out hnx.out hE.out _ _
        · have hE := Lib.hid (by have := hE0.out; rwa [if_neg hfu] at this)
          have hf1I : ¬ (64 : Int) ≤ (n : Int) := by omega
          have hf2 : ¬ 9007199254740992 ≤ nx := by omega
          have qn : IntKind.i64.wrap (nx + 1) = nx + 1 := by rw [IntKind.wrap_i64]; omega
          obtain ⟨j1, hj1, hy0, hy1, hy2⟩ := info_parts info_order
          have HI1 := Lib.hid hj1
          have HY0 := Lib.hid hy0
          have HY1 := Lib.hid hy1
          have HY2 := Lib.hid hy2
          have hA1 : Hid (n + 1 ≤ maxLen) := Lib.hid (by unfold maxLen; omega)
          have hA2 : Hid ((n + 1) * 48 ≤ 140737488355328) := Lib.hid (by omega)
          clear hfu hE0 hj1 hy0 hy1 hy2
          go_enter Try.func52, Try.ntmps52
          go_upto_region 1 with (fail)
          rw [hgb.out] at B0 B1 B2 ⊢
          generalize World.alloc (World.alloc (World.alloc w _) _) _ = wy at hb0 B0 B1 B2 ⊢
          have HX : Hid (∀ wx, Below wy.heap.size wy wx → (wx.cell? ⟨gb, 0, none⟩ = some (.slice A n c) ∧ wx.cell? ⟨gb, 1, none⟩ = some (.int .i64 nx)) ∧ (wx.cell? ⟨gb + 1, 0, none⟩ = some (.int .i64 qi) ∧ wx.cell? ⟨gb + 1, 1, none⟩ = some (.int .i64 qo) ∧ wx.cell? ⟨gb + 1, 2, none⟩ = some (.int .i64 qp) ∧ wx.cell? ⟨gb + 1, 3, none⟩ = some (.int .i64 qa) ∧ wx.cell? ⟨gb + 1, 4, none⟩ = some (.int .i64 0) ∧ wx.cell? ⟨gb + 1, 5, none⟩ = some (.bool qb)) ∧ ((wx.cell? ⟨gb + 2, 0, none⟩ = some (.slice none 0 0) ∧ wx.cell? ⟨gb + 2, 1, none⟩ = some (.int .i64 0)) ∧ wx.frozen? ⟨gb + 2, 0, none⟩ = false ∧ wx.frozen? ⟨gb + 2, 1, none⟩ = false)) := Lib.hid fun wx hb => by
            have b0 := B0.out.below hb B0.out.lt
            have b1 := B1.out.below hb B1.out.lt
            have b2 := B2.out.below hb B2.out.lt
            exact ⟨⟨b0.cell 0, b0.cell 1⟩, ⟨b1.cell 0, b1.cell 1, b1.cell 2, b1.cell 3, b1.cell 4, b1.cell 5⟩, ⟨b2.cell 0, b2.cell 1⟩, b2.frozen 0, b2.frozen 1⟩
          have HGR : Hid (w.heap.size ≤ gb + 2 ∧ gb + 2 < wy.heap.size) := Lib.hid ⟨by rw [hgb.out]; omega, B2.out.lt⟩
          obtain ⟨⟨x0, x1⟩, ⟨c0, c1, c2, c3, c4, c5⟩, ⟨z0, z1⟩, f0, f1⟩ := HX.out wy (Below.refl _ _)
          go_upto_region 3 with
            (go_at_call 37; (with_reducible refine (HRr.out _).mono ?_); rintro e w1 ⟨rfl, hh⟩; have hb1 := Lib.hid hh; clear hh; obtain ⟨⟨x0', x1'⟩, ⟨c0', c1', c2', c3', c4', c5'⟩, ⟨z0', z1'⟩, f0', f1'⟩ := HX.out w1 hb1.out)
          go_upto_region 7 with
            (go_at_call 53; (with_reducible refine (HAt.out _ (below_next hb0.out hb1.out)).mono ?_); rintro e w2 ⟨rfl, hh⟩; have hb2 := Lib.hid (below_next hb1.out hh); clear hh; obtain ⟨⟨y0, y1⟩, ⟨k0, k1, k2, k3, k4, k5⟩, ⟨z0'', z1''⟩, f0'', f1''⟩ := HX.out w2 hb2.out)
          clear x0 x1 c0 c1 c2 c3 c4 c5 z0 z1 f0 f1 x0' x1' c0' c1' c2' c3' c4' c5' z0' z1' f0' f1'
          have k4f : w2.frozen? ⟨gb + 1, 4, none⟩ = false := (B1.out.below hb2.out B1.out.lt).frozen 4
          have hne1 : ¬ gb + 1 = gb := by omega
          go_upto_region 8 with (fail)
          obtain ⟨w3, hw3⟩ : ∃ w3, w2.setCell ⟨gb + 1, 4, none⟩ (.int .i64 nx) = w3 := ⟨_, rfl⟩
          have D1 : Hid (Blk w3 (gb + 1) 33 #[.int .i64 qi, .int .i64 qo, .int .i64 qp, .int .i64 qa, .int .i64 nx, .bool qb]) := Lib.hid (by
            rw [← hw3]
            have := (B1.out.below hb2.out B1.out.lt).set_ 4 (.int .i64 nx)
            simpa using this)
          have D0 : Hid (Blk w3 gb 53 #[.slice A n c, .int .i64 nx]) := Lib.hid (by rw [← hw3]; exact Blk.far (b := gb + 1) (j := 4) (B0.out.below hb2.out B0.out.lt) (by omega) _)
          have D2 : Hid (Blk w3 (gb + 2) 53 #[.slice none 0 0, .int .i64 0]) := Lib.hid (by rw [← hw3]; exact Blk.far (b := gb + 1) (j := 4) (B2.out.below hb2.out B2.out.lt) (by omega) _)
          have hb3 : Hid (Below w.heap.size w w3) := Lib.hid (by rw [← hw3]; exact (below_next hb0.out hb2.out).setCell (p := ⟨gb + 1, 4, none⟩) (by show w.heap.size ≤ gb + 1; rw [hgb.out]; omega) _)
          rw [hw3]
          clear hw3 y0 y1 k0 k1 k2 k3 k4 k5 z0'' z1'' f0'' f1'' k4f hne1
          have HY : Hid (∀ wx, Below w3.heap.size w3 wx → ((wx.cell? ⟨gb + 1, 0, none⟩ = some (.int .i64 qi) ∧ wx.cell? ⟨gb + 1, 1, none⟩ = some (.int .i64 qo) ∧ wx.cell? ⟨gb + 1, 2, none⟩ = some (.int .i64 qp) ∧ wx.cell? ⟨gb + 1, 3, none⟩ = some (.int .i64 qa) ∧ wx.cell? ⟨gb + 1, 4, none⟩ = some (.int .i64 nx) ∧ wx.cell? ⟨gb + 1, 5, none⟩ = some (.bool qb)) ∧ wx.cell? ⟨gb, 0, none⟩ = some (.slice A n c) ∧ wx.cell? ⟨gb, 1, none⟩ = some (.int .i64 nx)) ∧ ((wx.cell? ⟨gb + 2, 0, none⟩ = some (.slice none 0 0) ∧ wx.cell? ⟨gb + 2, 1, none⟩ = some (.int .i64 0)) ∧ wx.frozen? ⟨gb + 2, 0, none⟩ = false ∧ wx.frozen? ⟨gb + 2, 1, none⟩ = false)) := Lib.hid fun wx hb => by
            have b0 := D0.out.below hb D0.out.lt
            have b1 := D1.out.below hb D1.out.lt
            have b2 := D2.out.below hb D2.out.lt
            exact ⟨⟨⟨b1.cell 0, b1.cell 1, b1.cell 2, b1.cell 3, b1.cell 4, b1.cell 5⟩, b0.cell 0, b0.cell 1⟩, ⟨b2.cell 0, b2.cell 1⟩, b2.frozen 0, b2.frozen 1⟩
          have HS2 : Hid (∀ (wx : World) (v0 v1 : Value) (wz : World), wz = ((wx.setCell ⟨gb + 2, 0, none⟩ v0).setCell ⟨gb + 2, 1, none⟩ v1) → ((wx.cell? ⟨gb + 1, 0, none⟩ = some (.int .i64 qi) ∧ wx.cell? ⟨gb + 1, 1, none⟩ = some (.int .i64 qo) ∧ wx.cell? ⟨gb + 1, 2, none⟩ = some (.int .i64 qp) ∧ wx.cell? ⟨gb + 1, 3, none⟩ = some (.int .i64 qa) ∧ wx.cell? ⟨gb + 1, 4, none⟩ = some (.int .i64 nx) ∧ wx.cell? ⟨gb + 1, 5, none⟩ = some (.bool qb)) ∧ wx.cell? ⟨gb, 0, none⟩ = some (.slice A n c) ∧ wx.cell? ⟨gb, 1, none⟩ = some (.int .i64 nx)) → ((wz.cell? ⟨gb + 1, 0, none⟩ = some (.int .i64 qi) ∧ wz.cell? ⟨gb + 1, 1, none⟩ = some (.int .i64 qo) ∧ wz.cell? ⟨gb + 1, 2, none⟩ = some (.int .i64 qp) ∧ wz.cell? ⟨gb + 1, 3, none⟩ = some (.int .i64 qa) ∧ wz.cell? ⟨gb + 1, 4, none⟩ = some (.int .i64 nx) ∧ wz.cell? ⟨gb + 1, 5, none⟩ = some (.bool qb)) ∧ wz.cell? ⟨gb, 0, none⟩ = some (.slice A n c) ∧ wz.cell? ⟨gb, 1, none⟩ = some (.int .i64 nx))) := Lib.hid fun wx v0 v1 wz hwz ⟨⟨q0, q1, q2, q3, q4, q5⟩, r0, r1⟩ => by
            subst hwz
            exact ⟨⟨far2 q0 (by omega) _ _, far2 q1 (by omega) _ _, far2 q2 (by omega) _ _, far2 q3 (by omega) _ _, far2 q4 (by omega) _ _, far2 q5 (by omega) _ _⟩, far2 r0 (by omega) _ _, far2 r1 (by omega) _ _⟩
          have hg3 : Hid (w.heap.size ≤ gb + 2 ∧ gb + 2 < w3.heap.size) := Lib.hid ⟨HGR.out.1, D2.out.lt⟩
          have HS0 : Hid ((w3.cell? ⟨gb + 1, 0, none⟩ = some (.int .i64 qi) ∧ w3.cell? ⟨gb + 1, 1, none⟩ = some (.int .i64 qo) ∧ w3.cell? ⟨gb + 1, 2, none⟩ = some (.int .i64 qp) ∧ w3.cell? ⟨gb + 1, 3, none⟩ = some (.int .i64 qa) ∧ w3.cell? ⟨gb + 1, 4, none⟩ = some (.int .i64 nx) ∧ w3.cell? ⟨gb + 1, 5, none⟩ = some (.bool qb)) ∧ w3.cell? ⟨gb, 0, none⟩ = some (.slice A n c) ∧ w3.cell? ⟨gb, 1, none⟩ = some (.int .i64 nx)) := Lib.hid (HY.out _ (Below.refl _ _)).1
          have HKw : Hid (∀ wx, Below w3.heap.size w3 wx → Calls Try.prog 65 #[.slice A n c, .int .i64 (-1)] wx fun e w' => ∃ A3 c3, e = .returned (.slice A3 n c3) ∧ Hid (Mine w3 w' 6 (.slice A3 n c3) n (ocells b.l)) ∧ Hid (Below w3.heap.size w3 w') ∧ Hid (Below wx.heap.size wx w')) := Lib.hid fun wx hb => (HWo.out wx (below_next hb3.out hb)).mono fun e w' ⟨A3, c3, e1, e2, e3⟩ => ⟨A3, c3, e1, Lib.hid (e2.base hb.size), Lib.hid (below_next hb e3), Lib.hid e3⟩
          have HSa : Hid (∀ w5, Below (w3.alloc (.cells #[.int .i64 qi, .int .i64 qo, .int .i64 qp, .int .i64 qa, .int .i64 nx, .bool qb] 33)).heap.size (w3.alloc (.cells #[.int .i64 qi, .int .i64 qo, .int .i64 qp, .int .i64 qa, .int .i64 nx, .bool qb] 33)) w5 → Src Try.prog 6 22 (.slice (some ⟨w3.heap.size, 0, none⟩) 1 1) 1 (ocell ⟨qi, qo, qp, qa, nx, qb⟩) w5) := Lib.hid fun w5 hb => by
            have hb5 : Blk w5 w3.heap.size 33 (ocell ⟨qi, qo, qp, qa, nx, qb⟩).toArray := (Blk.new w3 33 (ocell ⟨qi, qo, qp, qa, nx, qb⟩).toArray).below hb (Blk.new w3 33 (ocell ⟨qi, qo, qp, qa, nx, qb⟩).toArray).lt
            refine Src.ofSlice _ Try.underlying22 ⟨w3.heap.size, 0, none⟩ 1 1 (ocell ⟨qi, qo, qp, qa, nx, qb⟩) rfl (fun j u hu => ?_) (by simp [ocell, Value.oneCell'])
            rw [show (⟨w3.heap.size, 0, none⟩ : Addr).add j = ⟨w3.heap.size, j, none⟩ from by simp [Addr.add_lit], hb5.cell j, ← hu]
            simp
          have HSb : Hid (∀ wx : World, Src Try.prog 6 22 (.slice (some ⟨wx.heap.size, 0, none⟩) 1 1) 1 (ocell ⟨qi, qo, qp, qa, nx, qb⟩) (wx.alloc (.cells (ocell ⟨qi, qo, qp, qa, nx, qb⟩).toArray 33))) := Lib.hid fun wx => src_new Try.underlying22 wx _ _ 1 1 rfl (by simp [ocell, Value.oneCell'])
          obtain ⟨⟨⟨k0, k1, k2, k3, k4, k5⟩, y0, y1⟩, ⟨z0', z1'⟩, f0', f1'⟩ := HY.out w3 (Below.refl _ _)
          go_region_held3 (fun wx => ((wx.cell? ⟨gb + 1, 0, none⟩ = some (.int .i64 qi) ∧ wx.cell? ⟨gb + 1, 1, none⟩ = some (.int .i64 qo) ∧ wx.cell? ⟨gb + 1, 2, none⟩ = some (.int .i64 qp) ∧ wx.cell? ⟨gb + 1, 3, none⟩ = some (.int .i64 qa) ∧ wx.cell? ⟨gb + 1, 4, none⟩ = some (.int .i64 nx) ∧ wx.cell? ⟨gb + 1, 5, none⟩ = some (.bool qb)) ∧ wx.cell? ⟨gb, 0, none⟩ = some (.slice A n c) ∧ wx.cell? ⟨gb, 1, none⟩ = some (.int .i64 nx)))
            (first
              | exact HS0.out
              | exact (HY.out _ (Below.refl _ _).drew).1
              | exact (HY.out _ ((Below.refl _ _).alloc (Nat.le_refl _) _)).1
              | exact (HY.out _ ((Below.refl _ _).alloc (Nat.le_refl _) _).drew).1
              | (with_reducible exact (HY.out _ hb4.out).1)
              | (with_reducible exact (HY.out _ (hb4.out.alloc hb4.out.size _)).1)
              | (with_reducible exact (HY.out _ hb5).1)
              | exact HS2.out _ _ _ _ rfl (HY.out _ hb5).1)
            (first
              | (go_at_call 65; first
                | ((with_reducible refine (HKw.out w3.drew (Below.refl _ _).drew).mono ?_); rintro e w4 ⟨A3, c3, rfl, hm4, hb4, hbA⟩)
                | ((with_reducible refine (HKw.out (w3.alloc _).drew ((Below.refl _ _).alloc (Nat.le_refl _) _).drew).mono ?_); rintro e w4 ⟨A3, c3, rfl, hm4, hb4, hbA⟩))
              | (refine step_append_mine rfl (.tmp 36) (.tmp 38) 22 22 rfl 33 j1 (.agg #[.int .i64 0, .int .i64 0, .int .i64 0, .int .i64 0, .int .i64 0, .bool false]) 48 Try.underlying22 HI1.out HY0.out HY1.out HY2.out rfl (by decide) rfl (hm4.out.alloc _) (hb4.out.alloc hb4.out.size _) _ 1 (ocell ⟨qi, qo, qp, qa, nx, qb⟩) rfl (HSb.out w4) hA1.out hA2.out ?_; intro A5 c5' w5 hm5 hb5; obtain ⟨-, ⟨z0'', z1''⟩, f0'', f1''⟩ := HY.out _ hb5)
              | (refine step_append_mine rfl (.tmp 36) (.tmp 38) 22 22 rfl 33 j1 (.agg #[.int .i64 0, .int .i64 0, .int .i64 0, .int .i64 0, .int .i64 0, .bool false]) 48 Try.underlying22 HI1.out HY0.out HY1.out HY2.out rfl (by decide) rfl hm4.out hb4.out _ 1 (ocell ⟨qi, qo, qp, qa, nx, qb⟩) rfl (HSa.out w4 (below_next (Below.refl _ _).drew hbA.out)) hA1.out hA2.out ?_; intro A5 c5' w5 hm5 hb5; obtain ⟨-, ⟨z0'', z1''⟩, f0'', f1''⟩ := HY.out _ hb5))
          all_goals
            go_wp2
            (try simp only [Exit.inBlock, Exit.then])
            refine bodyPost_ret (by simp [results, Try.results52, asAddr, go_sem, z0'', z1'']; rfl) rfl ?_
            exact rto_new (L := b.l ++ [(⟨qi, qo, qp, qa, nx, qb⟩ : Ord)]) (gr := gb + 2) hb3.out (by rw [ocells_append]; exact hm5) hb5 hg3.out (by rw [List.length_append, hn.out]; rfl) hE.out _ _
    · have hpl1 : (qpl != 0) = true := by simpa using hpl
      have hE := Lib.hid (by have := hpu.out; rwa [if_pos (by intro hh; exact hpl hh.2)] at this)
      clear hpu hpl
      go_enter Try.func52, Try.ntmps52
      go_upto_region 1 with (fail)
      rw [hgb.out] at B0 B1 B2 ⊢
      generalize World.alloc (World.alloc (World.alloc w _) _) _ = wy at hb0 B0 B1 B2 ⊢
      have HX : Hid (∀ wx, Below wy.heap.size wy wx → (wx.cell? ⟨gb, 0, none⟩ = some (.slice A n c) ∧ wx.cell? ⟨gb, 1, none⟩ = some (.int .i64 nx)) ∧ (wx.cell? ⟨gb + 1, 0, none⟩ = some (.int .i64 qi) ∧ wx.cell? ⟨gb + 1, 1, none⟩ = some (.int .i64 qo) ∧ wx.cell? ⟨gb + 1, 2, none⟩ = some (.int .i64 qp) ∧ wx.cell? ⟨gb + 1, 3, none⟩ = some (.int .i64 qa) ∧ wx.cell? ⟨gb + 1, 4, none⟩ = some (.int .i64 qpl) ∧ wx.cell? ⟨gb + 1, 5, none⟩ = some (.bool qb)) ∧ ((wx.cell? ⟨gb + 2, 0, none⟩ = some (.slice none 0 0) ∧ wx.cell? ⟨gb + 2, 1, none⟩ = some (.int .i64 0)) ∧ wx.frozen? ⟨gb + 2, 0, none⟩ = false ∧ wx.frozen? ⟨gb + 2, 1, none⟩ = false)) := Lib.hid fun wx hb => by
        have b0 := B0.out.below hb B0.out.lt
        have b1 := B1.out.below hb B1.out.lt
        have b2 := B2.out.below hb B2.out.lt
        exact ⟨⟨b0.cell 0, b0.cell 1⟩, ⟨b1.cell 0, b1.cell 1, b1.cell 2, b1.cell 3, b1.cell 4, b1.cell 5⟩, ⟨b2.cell 0, b2.cell 1⟩, b2.frozen 0, b2.frozen 1⟩
      have HGR : Hid (w.heap.size ≤ gb + 2 ∧ gb + 2 < wy.heap.size) := Lib.hid ⟨by rw [hgb.out]; omega, B2.out.lt⟩
      obtain ⟨⟨x0, x1⟩, ⟨c0, c1, c2, c3, c4, c5⟩, ⟨z0, z1⟩, f0, f1⟩ := HX.out wy (Below.refl _ _)
      go_wp2_with
        (go_at_call 37; (with_reducible refine (HRr.out _).mono ?_); rintro e w1 ⟨rfl, hh⟩; have hb1 := Lib.hid hh; clear hh; obtain ⟨⟨x0', x1'⟩, ⟨c0', c1', c2', c3', c4', c5'⟩, ⟨z0', z1'⟩, f0', f1'⟩ := HX.out w1 hb1.out)
      (try simp only [Exit.inBlock, Exit.then])
      refine bodyPost_ret (by simp [results, Try.results52, asAddr, go_sem, z0', z1']; rfl) rfl ?_
      exact rto_same (below_next hb0.out hb1.out) HGR.out.1 hn.out hnx.out hE.out _ _
end Go.Proofs.Ytilbhnloelgpdaa
