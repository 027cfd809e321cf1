/- The reference's Over and Loose. -/
import Derived.Test.YthhjockofihohaaRefK
namespace Go.Proofs.Ythhjockofihohaa
open Go.RowKit
set_option maxHeartbeats 4000000 in
theorem over_calls (w : World) (A : Option Addr) (y : Led) (h : RAt w A y) (hk : y.ROk) (c : Nat) (src dst part m : Int) (gd : Int) (hgd : Hid (y.goods = gd)) :
    Calls Try.prog 35 #[.agg #[.int .i64 gd, .slice A y.n c], .int .i64 src, .int .i64 dst, .int .i64 part, .int .i64 m] w (RTo w gd (y.rover src dst part m)) := by
  obtain ⟨b0, o0, rfl, hbl0, hnum0⟩ := h.num
  have HBL := Lib.hid hbl0
  have HN0 := Lib.hid hnum0
  clear hbl0 hnum0
  have H := Lib.hid h
  have hn := hk.len
  have HRf : Hid (∀ wx, Calls Try.prog 40 #[.agg #[.int .i64 gd, .slice (some ⟨b0, o0, none⟩) y.n c], .int .i64 dst, .int .i64 part, .int .i64 m] wx fun e w' => e = .returned (.int .i64 (y.rerr dst part m)) ∧ Below wx.heap.size wx w') := Lib.hid fun wx => by
    have := refused_calls wx (some ⟨b0, o0, none⟩) y hk c dst part m
    rw [hgd.out] at this
    exact this
  have HCp := Lib.hid (fun wx (hb : Below w.heap.size w wx) => copy_calls (H.out.below hb) hk.len c gd)
  have HK := Lib.hid hk
  have hE : Hid (y.rover src dst part m = if src < 0 ∨ y.n ≤ src then (y, 60) else if y.rerr dst part m ≠ 0 then (y, y.rerr dst part m) else if y.z src.toNat (5 + part.toNat) < m then (y, 61) else ((y.inc src.toNat (5 + part.toNat) (-m)).inc dst.toNat part.toNat m, 0)) := Lib.hid rfl
  obtain ⟨n, hnn⟩ : ∃ n, Hid (y.n = n) := ⟨_, Lib.hid rfl⟩
  rw [hnn.out] at hn HRf HCp hE ⊢
  clear h hk
  by_cases a1 : src < 0
  · have E : Hid (y.rover src dst part m = (y, 60)) := Lib.hid (by rw [hE.out, if_pos (.inl a1)])
    clear hE
    go_enter Try.func35, Try.ntmps35
    go_upto_region 1 with (fail)
    have hb0 : Hid (Below w.heap.size w ((w.alloc (.cells #[.int .i64 gd, .slice (some ⟨b0, o0, none⟩) n c] 44)).alloc (.cells #[.int .i64 0, .slice none 0 0] 44))) := Lib.hid (((Below.refl _ _).alloc (Nat.le_refl _) _).alloc (by simp) _)
    have B1 : Hid (Blk ((w.alloc (.cells #[.int .i64 gd, .slice (some ⟨b0, o0, none⟩) n c] 44)).alloc (.cells #[.int .i64 0, .slice none 0 0] 44)) w.heap.size 44 #[.int .i64 gd, .slice (some ⟨b0, o0, none⟩) n c]) := Lib.hid ((Blk.new _ _ _).alloc _)
    have B2 : Hid (Blk ((w.alloc (.cells #[.int .i64 gd, .slice (some ⟨b0, o0, none⟩) n c] 44)).alloc (.cells #[.int .i64 0, .slice none 0 0] 44)) (w.heap.size + 1) 44 #[.int .i64 0, .slice none 0 0]) := Lib.hid (by have := Blk.new (w.alloc (.cells #[.int .i64 gd, .slice (some ⟨b0, o0, none⟩) n c] 44)) 44 #[.int .i64 0, .slice none 0 0]; simpa using this)
    obtain ⟨g1, hg1⟩ : ∃ g1, w.heap.size = g1 := ⟨_, rfl⟩
    have HG := Lib.hid hg1
    rw [hg1] at B1 B2 ⊢
    clear hg1
    generalize World.alloc (World.alloc w _) _ = wy at hb0 B1 B2 ⊢
    have HX : Hid (∀ wx, Below wy.heap.size wy wx → wx.cell? ⟨g1, 0, none⟩ = some (.int .i64 gd) ∧ wx.cell? ⟨g1, 1, none⟩ = some (.slice (some ⟨b0, o0, none⟩) n c) ∧ wx.cell? ⟨g1 + 1, 0, none⟩ = some (.int .i64 0) ∧ wx.cell? ⟨g1 + 1, 1, none⟩ = some (.slice none 0 0) ∧ wx.frozen? ⟨g1 + 1, 0, none⟩ = false ∧ wx.frozen? ⟨g1 + 1, 1, none⟩ = false ∧ g1 + 1 < wx.heap.size) := Lib.hid fun wx hb => by
      have b1 := B1.out.below hb B1.out.lt
      have b2 := B2.out.below hb B2.out.lt
      exact ⟨b1.cell 0, b1.cell 1, b2.cell 0, b2.cell 1, b2.frozen 0, b2.frozen 1, b2.lt⟩
    obtain ⟨c0, c1, e0, e1, f0, f1, -⟩ := HX.out wy (Below.refl _ _)
    go_wp2
    (try simp only [Exit.inBlock, Exit.then])
    refine bodyPost_ret (by simp [results, Try.results35, asAddr, go_sem, e0, e1]; rfl) rfl ?_
    have hbz := below_two (below_next hb0.out (Below.refl _ _)) (by rw [HG.out]; exact Nat.le_succ g1) (.int .i64 gd) (.slice (some ⟨b0, o0, none⟩) n c)
    exact rto E.out hnn.out (H.out.below hbz) hbz fun hh => absurd hh (by decide)
  · by_cases a2 : (n : Int) ≤ src
    · have E : Hid (y.rover src dst part m = (y, 60)) := Lib.hid (by rw [hE.out, if_pos (.inr a2)])
      have a1B : decide (src < 0) = false := by simpa using a1
      clear hE
      go_enter Try.func35, Try.ntmps35
      go_upto_region 1 with (fail)
      have hb0 : Hid (Below w.heap.size w ((w.alloc (.cells #[.int .i64 gd, .slice (some ⟨b0, o0, none⟩) n c] 44)).alloc (.cells #[.int .i64 0, .slice none 0 0] 44))) := Lib.hid (((Below.refl _ _).alloc (Nat.le_refl _) _).alloc (by simp) _)
      have B1 : Hid (Blk ((w.alloc (.cells #[.int .i64 gd, .slice (some ⟨b0, o0, none⟩) n c] 44)).alloc (.cells #[.int .i64 0, .slice none 0 0] 44)) w.heap.size 44 #[.int .i64 gd, .slice (some ⟨b0, o0, none⟩) n c]) := Lib.hid ((Blk.new _ _ _).alloc _)
      have B2 : Hid (Blk ((w.alloc (.cells #[.int .i64 gd, .slice (some ⟨b0, o0, none⟩) n c] 44)).alloc (.cells #[.int .i64 0, .slice none 0 0] 44)) (w.heap.size + 1) 44 #[.int .i64 0, .slice none 0 0]) := Lib.hid (by have := Blk.new (w.alloc (.cells #[.int .i64 gd, .slice (some ⟨b0, o0, none⟩) n c] 44)) 44 #[.int .i64 0, .slice none 0 0]; simpa using this)
      obtain ⟨g1, hg1⟩ : ∃ g1, w.heap.size = g1 := ⟨_, rfl⟩
      have HG := Lib.hid hg1
      rw [hg1] at B1 B2 ⊢
      clear hg1
      generalize World.alloc (World.alloc w _) _ = wy at hb0 B1 B2 ⊢
      have HX : Hid (∀ wx, Below wy.heap.size wy wx → wx.cell? ⟨g1, 0, none⟩ = some (.int .i64 gd) ∧ wx.cell? ⟨g1, 1, none⟩ = some (.slice (some ⟨b0, o0, none⟩) n c) ∧ wx.cell? ⟨g1 + 1, 0, none⟩ = some (.int .i64 0) ∧ wx.cell? ⟨g1 + 1, 1, none⟩ = some (.slice none 0 0) ∧ wx.frozen? ⟨g1 + 1, 0, none⟩ = false ∧ wx.frozen? ⟨g1 + 1, 1, none⟩ = false ∧ g1 + 1 < wx.heap.size) := Lib.hid fun wx hb => by
        have b1 := B1.out.below hb B1.out.lt
        have b2 := B2.out.below hb B2.out.lt
        exact ⟨b1.cell 0, b1.cell 1, b2.cell 0, b2.cell 1, b2.frozen 0, b2.frozen 1, b2.lt⟩
      obtain ⟨c0, c1, e0, e1, f0, f1, -⟩ := HX.out wy (Below.refl _ _)
      go_wp2
      (try simp only [Exit.inBlock, Exit.then])
      refine bodyPost_ret (by simp [results, Try.results35, asAddr, go_sem, e0, e1]; rfl) rfl ?_
      have hbz := below_two (below_next hb0.out (Below.refl _ _)) (by rw [HG.out]; exact Nat.le_succ g1) (.int .i64 gd) (.slice (some ⟨b0, o0, none⟩) n c)
      exact rto E.out hnn.out (H.out.below hbz) hbz fun hh => absurd hh (by decide)
    · have a1B : decide (src < 0) = false := by simpa using a1
      have a2B : decide ((n : Int) ≤ src) = false := by simpa using a2
      by_cases he : y.rerr dst part m ≠ 0
      · have E : Hid (y.rover src dst part m = (y, y.rerr dst part m)) := Lib.hid (by rw [hE.out, if_neg (by omega), if_pos he])
        have heB : (y.rerr dst part m != 0) = true := by simpa using he
        clear hE
        generalize y.rerr dst part m = er at HRf heB he E
        go_enter Try.func35, Try.ntmps35
        go_upto_region 1 with (fail)
        have hb0 : Hid (Below w.heap.size w ((w.alloc (.cells #[.int .i64 gd, .slice (some ⟨b0, o0, none⟩) n c] 44)).alloc (.cells #[.int .i64 0, .slice none 0 0] 44))) := Lib.hid (((Below.refl _ _).alloc (Nat.le_refl _) _).alloc (by simp) _)
        have B1 : Hid (Blk ((w.alloc (.cells #[.int .i64 gd, .slice (some ⟨b0, o0, none⟩) n c] 44)).alloc (.cells #[.int .i64 0, .slice none 0 0] 44)) w.heap.size 44 #[.int .i64 gd, .slice (some ⟨b0, o0, none⟩) n c]) := Lib.hid ((Blk.new _ _ _).alloc _)
        have B2 : Hid (Blk ((w.alloc (.cells #[.int .i64 gd, .slice (some ⟨b0, o0, none⟩) n c] 44)).alloc (.cells #[.int .i64 0, .slice none 0 0] 44)) (w.heap.size + 1) 44 #[.int .i64 0, .slice none 0 0]) := Lib.hid (by have := Blk.new (w.alloc (.cells #[.int .i64 gd, .slice (some ⟨b0, o0, none⟩) n c] 44)) 44 #[.int .i64 0, .slice none 0 0]; simpa using this)
        obtain ⟨g1, hg1⟩ : ∃ g1, w.heap.size = g1 := ⟨_, rfl⟩
        have HG := Lib.hid hg1
        rw [hg1] at B1 B2 ⊢
        clear hg1
        generalize World.alloc (World.alloc w _) _ = wy at hb0 B1 B2 ⊢
        have HX : Hid (∀ wx, Below wy.heap.size wy wx → wx.cell? ⟨g1, 0, none⟩ = some (.int .i64 gd) ∧ wx.cell? ⟨g1, 1, none⟩ = some (.slice (some ⟨b0, o0, none⟩) n c) ∧ wx.cell? ⟨g1 + 1, 0, none⟩ = some (.int .i64 0) ∧ wx.cell? ⟨g1 + 1, 1, none⟩ = some (.slice none 0 0) ∧ wx.frozen? ⟨g1 + 1, 0, none⟩ = false ∧ wx.frozen? ⟨g1 + 1, 1, none⟩ = false ∧ g1 + 1 < wx.heap.size) := Lib.hid fun wx hb => by
          have b1 := B1.out.below hb B1.out.lt
          have b2 := B2.out.below hb B2.out.lt
          exact ⟨b1.cell 0, b1.cell 1, b2.cell 0, b2.cell 1, b2.frozen 0, b2.frozen 1, b2.lt⟩
        obtain ⟨c0, c1, e0, e1, f0, f1, -⟩ := HX.out wy (Below.refl _ _)
        go_upto_region 4 with (first
          | (go_at_call 40; (with_reducible refine (HRf.out _).mono ?_); rintro e wa ⟨rfl, hba⟩; have HBa := Lib.hid hba; clear hba))
        obtain ⟨c0, c1, e0, e1, f0, f1, -⟩ := HX.out wa HBa.out
        go_wp2
        (try simp only [Exit.inBlock, Exit.then])
        refine bodyPost_ret (by simp [results, Try.results35, asAddr, go_sem, e0, e1]; rfl) rfl ?_
        have hbz := below_two (below_next hb0.out HBa.out) (by rw [HG.out]; exact Nat.le_succ g1) (.int .i64 gd) (.slice (some ⟨b0, o0, none⟩) n c)
        exact rto E.out hnn.out (H.out.below hbz) hbz fun hh => absurd hh he
      · have he0 := Classical.not_not.1 he
        obtain ⟨w0, w1, p0, p1, m0, m1⟩ := Led.rerr_ok he0
        rw [hnn.out] at w1
        have hg4 := HK.out.kinds.2
        obtain ⟨i, rfl⟩ : ∃ i : Nat, src = (i : Int) := ⟨src.toNat, by omega⟩
        obtain ⟨t, rfl⟩ : ∃ t : Nat, dst = (t : Int) := ⟨dst.toNat, by omega⟩
        obtain ⟨p, rfl⟩ : ∃ p : Nat, part = (p : Int) := ⟨part.toNat, by omega⟩
        have hi : i < n := by omega
        have ht : t < n := by omega
        have hp : p < 5 := by omega
        have hp5 : (p : Int) < 5 := by omega
        rw [he0] at HRf
        have hE2 : Hid (y.rover (i : Int) (t : Int) (p : Int) m = if y.z i (5 + p) < m then (y, 61) else ((y.inc i (5 + p) (-m)).inc t p m, 0)) := Lib.hid (by rw [hE.out, if_neg (by omega), if_neg he]; rfl)
        clear hE he he0 hg4
        have hz1 := HK.out.num i (5 + p) (by rw [hnn.out]; exact hi) (by omega)
        have hz2 := Lib.hid (HK.out.num t p (by rw [hnn.out]; exact ht) (by omega))
        have hcell : Hid (∀ wx, Below w.heap.size w wx → wx.cell? ⟨b0, o0 + i * 12 + 5 + p, none⟩ = some (.int .i64 (y.z i (5 + p)))) := Lib.hid fun wx hb => by
          have := (below_cell (o := o0 + i * 12 + (5 + p)) hb HBL.out).trans (HN0.out i (5 + p) (by rw [hnn.out]; exact hi) (by omega))
          rw [← Nat.add_assoc] at this
          exact this
        have hiI : (i : Int) < (n : Int) := by omega
        have hi0 : (0 : Int) ≤ (i : Int) := by omega
        have htI : (t : Int) < (n : Int) := by omega
        have ht0 : (0 : Int) ≤ (t : Int) := by omega
        clear a1 a1B a2
        by_cases hpo : y.z i (5 + p) < m
        · have E : Hid (y.rover (i : Int) (t : Int) (p : Int) m = (y, 61)) := Lib.hid (by rw [hE2.out, if_pos hpo])
          generalize y.z i (5 + p) = zv at hcell hpo hz1
          clear hE2
          go_enter Try.func35, Try.ntmps35
          go_upto_region 1 with (fail)
          have hb0 : Hid (Below w.heap.size w ((w.alloc (.cells #[.int .i64 gd, .slice (some ⟨b0, o0, none⟩) n c] 44)).alloc (.cells #[.int .i64 0, .slice none 0 0] 44))) := Lib.hid (((Below.refl _ _).alloc (Nat.le_refl _) _).alloc (by simp) _)
          have B1 : Hid (Blk ((w.alloc (.cells #[.int .i64 gd, .slice (some ⟨b0, o0, none⟩) n c] 44)).alloc (.cells #[.int .i64 0, .slice none 0 0] 44)) w.heap.size 44 #[.int .i64 gd, .slice (some ⟨b0, o0, none⟩) n c]) := Lib.hid ((Blk.new _ _ _).alloc _)
          have B2 : Hid (Blk ((w.alloc (.cells #[.int .i64 gd, .slice (some ⟨b0, o0, none⟩) n c] 44)).alloc (.cells #[.int .i64 0, .slice none 0 0] 44)) (w.heap.size + 1) 44 #[.int .i64 0, .slice none 0 0]) := Lib.hid (by have := Blk.new (w.alloc (.cells #[.int .i64 gd, .slice (some ⟨b0, o0, none⟩) n c] 44)) 44 #[.int .i64 0, .slice none 0 0]; simpa using this)
          obtain ⟨g1, hg1⟩ : ∃ g1, w.heap.size = g1 := ⟨_, rfl⟩
          have HG := Lib.hid hg1
          rw [hg1] at B1 B2 ⊢
          clear hg1
          generalize World.alloc (World.alloc w _) _ = wy at hb0 B1 B2 ⊢
          have HX : Hid (∀ wx, Below wy.heap.size wy wx → wx.cell? ⟨g1, 0, none⟩ = some (.int .i64 gd) ∧ wx.cell? ⟨g1, 1, none⟩ = some (.slice (some ⟨b0, o0, none⟩) n c) ∧ wx.cell? ⟨g1 + 1, 0, none⟩ = some (.int .i64 0) ∧ wx.cell? ⟨g1 + 1, 1, none⟩ = some (.slice none 0 0) ∧ wx.frozen? ⟨g1 + 1, 0, none⟩ = false ∧ wx.frozen? ⟨g1 + 1, 1, none⟩ = false ∧ g1 + 1 < wx.heap.size) := Lib.hid fun wx hb => by
            have b1 := B1.out.below hb B1.out.lt
            have b2 := B2.out.below hb B2.out.lt
            exact ⟨b1.cell 0, b1.cell 1, b2.cell 0, b2.cell 1, b2.frozen 0, b2.frozen 1, b2.lt⟩
          obtain ⟨c0, c1, e0, e1, f0, f1, -⟩ := HX.out wy (Below.refl _ _)
          go_upto_region 4 with (first
            | (go_at_call 40; (with_reducible refine (HRf.out _).mono ?_); rintro e wa ⟨rfl, hba⟩; have HBa := Lib.hid hba; clear hba))
          obtain ⟨c0, c1, e0, e1, f0, f1, -⟩ := HX.out wa HBa.out
          have z0 := hcell.out wa (below_next hb0.out HBa.out)
          go_wp2
          (try simp only [Exit.inBlock, Exit.then])
          refine bodyPost_ret (by simp [results, Try.results35, asAddr, go_sem, e0, e1]; rfl) rfl ?_
          have hbz := below_two (below_next hb0.out HBa.out) (by rw [HG.out]; exact Nat.le_succ g1) (.int .i64 gd) (.slice (some ⟨b0, o0, none⟩) n c)
          exact rto E.out hnn.out (H.out.below hbz) hbz fun hh => absurd hh (by decide)
        · have E : Hid (y.rover (i : Int) (t : Int) (p : Int) m = ((y.inc i (5 + p) (-m)).inc t p m, 0)) := Lib.hid (by rw [hE2.out, if_neg hpo])
          have hpoB : decide (y.z i (5 + p) < m) = false := by simpa using hpo
          clear hE2
          go_enter Try.func35, Try.ntmps35
          go_upto_region 1 with (fail)
          have hb0 : Hid (Below w.heap.size w ((w.alloc (.cells #[.int .i64 gd, .slice (some ⟨b0, o0, none⟩) n c] 44)).alloc (.cells #[.int .i64 0, .slice none 0 0] 44))) := Lib.hid (((Below.refl _ _).alloc (Nat.le_refl _) _).alloc (by simp) _)
          have B1 : Hid (Blk ((w.alloc (.cells #[.int .i64 gd, .slice (some ⟨b0, o0, none⟩) n c] 44)).alloc (.cells #[.int .i64 0, .slice none 0 0] 44)) w.heap.size 44 #[.int .i64 gd, .slice (some ⟨b0, o0, none⟩) n c]) := Lib.hid ((Blk.new _ _ _).alloc _)
          have B2 : Hid (Blk ((w.alloc (.cells #[.int .i64 gd, .slice (some ⟨b0, o0, none⟩) n c] 44)).alloc (.cells #[.int .i64 0, .slice none 0 0] 44)) (w.heap.size + 1) 44 #[.int .i64 0, .slice none 0 0]) := Lib.hid (by have := Blk.new (w.alloc (.cells #[.int .i64 gd, .slice (some ⟨b0, o0, none⟩) n c] 44)) 44 #[.int .i64 0, .slice none 0 0]; simpa using this)
          obtain ⟨g1, hg1⟩ : ∃ g1, w.heap.size = g1 := ⟨_, rfl⟩
          have HG := Lib.hid hg1
          rw [hg1] at B1 B2 ⊢
          clear hg1
          generalize World.alloc (World.alloc w _) _ = wy at hb0 B1 B2 ⊢
          have HX : Hid (∀ wx, Below wy.heap.size wy wx → wx.cell? ⟨g1, 0, none⟩ = some (.int .i64 gd) ∧ wx.cell? ⟨g1, 1, none⟩ = some (.slice (some ⟨b0, o0, none⟩) n c) ∧ wx.cell? ⟨g1 + 1, 0, none⟩ = some (.int .i64 0) ∧ wx.cell? ⟨g1 + 1, 1, none⟩ = some (.slice none 0 0) ∧ wx.frozen? ⟨g1 + 1, 0, none⟩ = false ∧ wx.frozen? ⟨g1 + 1, 1, none⟩ = false ∧ g1 + 1 < wx.heap.size) := Lib.hid fun wx hb => by
            have b1 := B1.out.below hb B1.out.lt
            have b2 := B2.out.below hb B2.out.lt
            exact ⟨b1.cell 0, b1.cell 1, b2.cell 0, b2.cell 1, b2.frozen 0, b2.frozen 1, b2.lt⟩
          obtain ⟨c0, c1, e0, e1, f0, f1, -⟩ := HX.out wy (Below.refl _ _)
          go_upto_region 4 with (first
            | (go_at_call 40; (with_reducible refine (HRf.out _).mono ?_); rintro e wb ⟨rfl, hba⟩; have HBb := Lib.hid hba; clear hba))
          obtain ⟨c0, c1, e0, e1, f0, f1, -⟩ := HX.out wb HBb.out
          have z0 := hcell.out wb (below_next hb0.out HBb.out)
          go_upto_region 8 with (fail)
          clear z0 hpoB a2B
          have HCp2 := Lib.hid (HCp.out wb (below_next hb0.out HBb.out))
          go_upto_region 9 with (first
            | (go_at_call 41; (refine (HCp2.out).mono ?_); rintro e wc ⟨b, o, c', rfl, hO, hbc⟩; have HO := Lib.hid hO; have HBc := Lib.hid (below_next HBb.out hbc); clear hO hbc))
          have hbd : Hid (Below wc.heap.size wc (wc.alloc (.cells #[.int .i64 gd, .slice (some ⟨b, o, none⟩) n c'] 44))) := Lib.hid ((Below.refl _ _).alloc (Nat.le_refl _) _)
          have BL : Hid (Blk (wc.alloc (.cells #[.int .i64 gd, .slice (some ⟨b, o, none⟩) n c'] 44)) wc.heap.size 44 #[.int .i64 gd, .slice (some ⟨b, o, none⟩) n c']) := Lib.hid (Blk.new _ _ _)
          have hbL : Hid (b ≠ wc.heap.size ∧ b ≠ g1 + 1) := Lib.hid (by
            have h1 := HO.out.2.1
            have h3 := HO.out.1
            have h4 := (HX.out wb HBb.out).2.2.2.2.2.2
            omega)
          obtain ⟨g3, hg3⟩ : ∃ g3, wc.heap.size = g3 := ⟨_, rfl⟩
          rw [hg3] at BL hbL ⊢
          clear hg3
          generalize hwd : World.alloc wc _ = wd at hbd BL ⊢
          have HO2 := Lib.hid (HO.out.below hbd.out)
          have HBd := Lib.hid (below_next HBc.out hbd.out)
          clear hwd c0 c1 e0 e1 f0 f1 HRf HCp
          have l1 : wd.cell? ⟨g3, 1, none⟩ = some (.slice (some ⟨b, o, none⟩) n c') := BL.out.cell 1
          obtain ⟨v1, v2⟩ := HO2.out.kept (i := i) (p := p) (by rw [hnn.out]; exact hi) hp
          obtain ⟨zv, hzv⟩ : ∃ zv, Hid (y.z i (5 + p) = zv) := ⟨_, Lib.hid rfl⟩
          rw [hzv.out] at v1 hz1 hpo
          obtain ⟨zz0, zz1⟩ := hz1
          have hw1 : IntKind.i64.wrap (zv - m) = zv - m := by rw [IntKind.wrap_i64]; omega
          go_region
          generalize hws : World.drew _ = ws
          have HO3 : Hid (ROwn wb ws b o c' (y.inc i (5 + p) (-m))) := Lib.hid (by
            rw [← hws]
            exact (HO2.out.putKept (i := i) (p := p) (by rw [hnn.out]; exact hi) hp (zv - m) (-m) (by rw [hzv.out]; omega)).drew)
          have HBs : Hid (Below wy.heap.size wy ws) := Lib.hid (by rw [← hws]; exact (HBd.out.setCell (Nat.le_trans HBb.out.size HO.out.1) _).drew)
          have BL2 : Hid (Blk ws g3 44 #[.int .i64 gd, .slice (some ⟨b, o, none⟩) n c']) := Lib.hid (by rw [← hws]; exact (BL.out.far hbL.out.1.symm _).drew)
          clear hws l1 v1 v2 hw1
          go_upto_region 10 with (fail)
          have l1 : ws.cell? ⟨g3, 1, none⟩ = some (.slice (some ⟨b, o, none⟩) n c') := BL2.out.cell 1
          obtain ⟨v1, v2⟩ := HO3.out.num (i := t) (k := p) (by show t < y.n; rw [hnn.out]; exact ht) (by omega)
          have hzt : Hid ((y.inc i (5 + p) (-m)).z t p = y.z t p) := Lib.hid (by rw [Led.inc_at, if_neg (by omega)])
          rw [hzt.out] at v1
          obtain ⟨yy0, yy1⟩ := hz2.out
          obtain ⟨zt, hzt2⟩ : ∃ zt, Hid (y.z t p = zt) := ⟨_, Lib.hid rfl⟩
          rw [hzt2.out] at v1 yy0 yy1
          have hw1 : IntKind.i64.wrap (zt + m) = zt + m := by rw [IntKind.wrap_i64]; omega
          go_region
          generalize hws : World.drew _ = wu
          have HO4 : Hid (ROwn wb wu b o c' ((y.inc i (5 + p) (-m)).inc t p m)) := Lib.hid (by
            rw [← hws]
            exact (HO3.out.putFree (i := t) (p := p) (by show t < y.n; rw [hnn.out]; exact ht) hp (zt + m) m (by rw [hzt.out, hzt2.out])).drew)
          have HBu : Hid (Below wy.heap.size wy wu) := Lib.hid (by rw [← hws]; exact (HBs.out.setCell (Nat.le_trans HBb.out.size HO.out.1) _).drew)
          have BL3 : Hid (Blk wu g3 44 #[.int .i64 gd, .slice (some ⟨b, o, none⟩) n c']) := Lib.hid (by rw [← hws]; exact (BL2.out.far hbL.out.1.symm _).drew)
          clear hws l1 v1 v2 hw1
          obtain ⟨-, -, e0, e1, f0, f1, -⟩ := HX.out wu HBu.out
          have l0 : wu.cell? ⟨g3, 0, none⟩ = some (.int .i64 gd) := BL3.out.cell 0
          have l1 : wu.cell? ⟨g3, 1, none⟩ = some (.slice (some ⟨b, o, none⟩) n c') := BL3.out.cell 1
          go_wp2
          (try simp only [Exit.inBlock, Exit.then])
          refine bodyPost_ret (by simp [results, Try.results35, asAddr, go_sem, e0, e1]; rfl) rfl ?_
          have hbz := below_two (below_next hb0.out HBu.out) (by rw [HG.out]; exact Nat.le_succ g1) (.int .i64 gd) (.slice (some ⟨b, o, none⟩) n c')
          have hfin := (HO4.out.weak (below_next hb0.out HBb.out).size).two (g1 := g1) hbL.out.2 (.int .i64 gd) (.slice (some ⟨b, o, none⟩) n c')
          exact rto E.out hnn.out hfin.rat hbz fun _ => ⟨b, o, rfl, hfin⟩
end Go.Proofs.Ythhjockofihohaa
