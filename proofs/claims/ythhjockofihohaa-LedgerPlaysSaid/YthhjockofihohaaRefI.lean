/- The reference's In and Out. -/
import Derived.Test.YthhjockofihohaaRefR
namespace Go.Proofs.Ythhjockofihohaa
open Go.RowKit
def RTo (w0 : World) (gd : Int) (r : Led × Int) (e : Ending) (w' : World) : Prop := ∃ A' c', e = .returned (.tuple #[.agg #[.int .i64 gd, .slice A' r.1.n c'], .int .i64 r.2]) ∧ RAt w' A' r.1 ∧ Below w0.heap.size w0 w' ∧ (r.2 = 0 → ∃ b o, A' = some ⟨b, o, none⟩ ∧ ROwn w0 w' b o c' r.1)
theorem below_two {B g1 : Nat} {w W : World} (h : Below B w W) (hB : B ≤ g1 + 1) (u v : Value) : Below B w ((W.setCell ⟨g1 + 1, 0, none⟩ u).setCell ⟨g1 + 1, 1, none⟩ v) := (h.setCell hB _).setCell hB _
theorem rto {w0 w' : World} {gd : Int} {r : Led × Int} {y' : Led} {cc : Int} {A' : Option Addr} {m c' : Nat} (hr : r = (y', cc)) (hm : y'.n = m) (h1 : RAt w' A' y') (h2 : Below w0.heap.size w0 w') (h3 : cc = 0 → ∃ b o, A' = some ⟨b, o, none⟩ ∧ ROwn w0 w' b o c' y') : RTo w0 gd r (.returned (.tuple #[.agg #[.int .i64 gd, .slice A' m c'], .int .i64 cc])) w' := by
  subst hr
  exact ⟨A', c', by rw [hm], h1, h2, h3⟩
set_option maxHeartbeats 2000000 in
theorem in_calls (w : World) (A : Option Addr) (y : Led) (h : RAt w A y) (hk : y.ROk) (c : Nat) (who part m : Int) (gd : Int) (hgd : Hid (y.goods = gd)) :
    Calls Try.prog 30 #[.agg #[.int .i64 gd, .slice A y.n c], .int .i64 who, .int .i64 part, .int .i64 m] w (RTo w gd (y.rin who part m)) := by
  have H := Lib.hid h
  have hn := hk.len
  have HRf : Hid (∀ wx, Calls Try.prog 40 #[.agg #[.int .i64 gd, .slice A y.n c], .int .i64 who, .int .i64 part, .int .i64 m] wx fun e w' => e = .returned (.int .i64 (y.rerr who part m)) ∧ Below wx.heap.size wx w') := Lib.hid fun wx => by
    have := refused_calls wx A y hk c who part m
    rw [hgd.out] at this
    exact this
  have HCp := Lib.hid (fun wx (hb : Below w.heap.size w wx) => copy_calls (H.out.below hb) hk.len c gd)
  have HTt := Lib.hid (fun wx (hb : Below w.heap.size w wx) (p : Nat) (hp : p < 5) => total_calls wx A y (H.out.below hb) hk c hp gd)
  have HK := Lib.hid hk
  have hE : Hid (y.rin who part m = if y.rerr who part m ≠ 0 then (y, y.rerr who part m) else if 1099511627776 - m < y.rtot part.toNat then (y, 62) else (y.inc who.toNat part.toNat (m), 0)) := Lib.hid rfl
  obtain ⟨n, hnn⟩ : ∃ n, Hid (y.n = n) := ⟨_, Lib.hid rfl⟩
  rw [hnn.out] at hn HRf HCp HTt ⊢
  clear h hk
  by_cases he : y.rerr who part m ≠ 0
  · have E : Hid (y.rin who part m = (y, y.rerr who part m)) := Lib.hid (by rw [hE.out, if_pos he])
    have heB : (y.rerr who part m != 0) = true := by simpa using he
    clear hE
    generalize y.rerr who part m = er at HRf heB he E
    go_enter Try.func30, Try.ntmps30
    go_upto_region 1 with (fail)
    have hb0 : Hid (Below w.heap.size w ((w.alloc (.cells #[.int .i64 gd, .slice A n c] 44)).alloc (.cells #[.int .i64 0, .slice none 0 0] 44))) := Lib.hid (((Below.refl _ _).alloc (Nat.le_refl _) _).alloc (by simp) _)
    have B1 : Hid (Blk ((w.alloc (.cells #[.int .i64 gd, .slice A n c] 44)).alloc (.cells #[.int .i64 0, .slice none 0 0] 44)) w.heap.size 44 #[.int .i64 gd, .slice A n c]) := Lib.hid ((Blk.new _ _ _).alloc _)
    have B2 : Hid (Blk ((w.alloc (.cells #[.int .i64 gd, .slice A n c] 44)).alloc (.cells #[.int .i64 0, .slice none 0 0] 44)) (w.heap.size + 1) 44 #[.int .i64 0, .slice none 0 0]) := Lib.hid (by have := Blk.new (w.alloc (.cells #[.int .i64 gd, .slice A n c] 44)) 44 #[.int .i64 0, .slice none 0 0]; simpa using this)
    obtain ⟨g1, hg1⟩ : ∃ g1, w.heap.size = g1 := ⟨_, rfl⟩
    have HG := Lib.hid hg1
    rw [hg1] at B1 B2 ⊢
    clear hg1
    generalize World.alloc (World.alloc w _) _ = wy at hb0 B1 B2 ⊢
    have HX : Hid (∀ wx, Below wy.heap.size wy wx → wx.cell? ⟨g1, 0, none⟩ = some (.int .i64 gd) ∧ wx.cell? ⟨g1, 1, none⟩ = some (.slice A n c) ∧ wx.cell? ⟨g1 + 1, 0, none⟩ = some (.int .i64 0) ∧ wx.cell? ⟨g1 + 1, 1, none⟩ = some (.slice none 0 0) ∧ wx.frozen? ⟨g1 + 1, 0, none⟩ = false ∧ wx.frozen? ⟨g1 + 1, 1, none⟩ = false ∧ g1 + 1 < wx.heap.size) := Lib.hid fun wx hb => by
      have b1 := B1.out.below hb B1.out.lt
      have b2 := B2.out.below hb B2.out.lt
      exact ⟨b1.cell 0, b1.cell 1, b2.cell 0, b2.cell 1, b2.frozen 0, b2.frozen 1, b2.lt⟩
    obtain ⟨c0, c1, e0, e1, f0, f1, -⟩ := HX.out wy (Below.refl _ _)
    go_upto_region 2 with (first
      | (go_at_call 40; (with_reducible refine (HRf.out _).mono ?_); rintro e wa ⟨rfl, hba⟩; have HBa := Lib.hid hba; clear hba))
    obtain ⟨c0, c1, e0, e1, f0, f1, -⟩ := HX.out wa HBa.out
    go_wp2
    (try simp only [Exit.inBlock, Exit.then])
    refine bodyPost_ret (by simp [results, Try.results30, asAddr, go_sem, e0, e1]; rfl) rfl ?_
    have hbz := below_two (below_next hb0.out HBa.out) (by rw [HG.out]; exact Nat.le_succ g1) (.int .i64 gd) (.slice A n c)
    exact rto E.out hnn.out (H.out.below hbz) hbz fun hh => absurd hh he
  · have he0 := Classical.not_not.1 he
    obtain ⟨w0, w1, p0, p1, m0, m1⟩ := Led.rerr_ok he0
    rw [hnn.out] at w1
    have hg4 := HK.out.kinds.2
    obtain ⟨i, rfl⟩ : ∃ i : Nat, who = (i : Int) := ⟨who.toNat, by omega⟩
    obtain ⟨p, rfl⟩ : ∃ p : Nat, part = (p : Int) := ⟨part.toNat, by omega⟩
    have hi : i < n := by omega
    have hp : p < 5 := by omega
    have hp5 : (p : Int) < 5 := by omega
    have hrf0 := he0
    rw [hrf0] at HRf
    have hE2 : Hid (y.rin (i : Int) (p : Int) m = if 1099511627776 - m < y.rtot p then (y, 62) else (y.inc i p (m), 0)) := Lib.hid (by rw [hE.out, if_neg he]; rfl)
    clear hE he he0 hrf0 hg4
    have htt := rtot_pos HK.out hp
    have ht0 : 0 ≤ y.rtot p := sumTo_pos htt
    have ht1 := HK.out.tot p hp
    have HT2 := Lib.hid (fun wx hb => HTt.out wx hb p hp)
    clear htt HTt
    have hzz := HK.out.num i p (by rw [hnn.out]; exact hi) (by omega)
    by_cases hpo : 1099511627776 - m < y.rtot p
    · have E : Hid (y.rin (i : Int) (p : Int) m = (y, 62)) := Lib.hid (by rw [hE2.out, if_pos hpo])
      generalize y.rtot p = tt at HT2 hpo ht0 ht1
      clear hE2
      go_enter Try.func30, Try.ntmps30
      go_upto_region 1 with (fail)
      have hb0 : Hid (Below w.heap.size w ((w.alloc (.cells #[.int .i64 gd, .slice A n c] 44)).alloc (.cells #[.int .i64 0, .slice none 0 0] 44))) := Lib.hid (((Below.refl _ _).alloc (Nat.le_refl _) _).alloc (by simp) _)
      have B1 : Hid (Blk ((w.alloc (.cells #[.int .i64 gd, .slice A n c] 44)).alloc (.cells #[.int .i64 0, .slice none 0 0] 44)) w.heap.size 44 #[.int .i64 gd, .slice A n c]) := Lib.hid ((Blk.new _ _ _).alloc _)
      have B2 : Hid (Blk ((w.alloc (.cells #[.int .i64 gd, .slice A n c] 44)).alloc (.cells #[.int .i64 0, .slice none 0 0] 44)) (w.heap.size + 1) 44 #[.int .i64 0, .slice none 0 0]) := Lib.hid (by have := Blk.new (w.alloc (.cells #[.int .i64 gd, .slice A n c] 44)) 44 #[.int .i64 0, .slice none 0 0]; simpa using this)
      obtain ⟨g1, hg1⟩ : ∃ g1, w.heap.size = g1 := ⟨_, rfl⟩
      have HG := Lib.hid hg1
      rw [hg1] at B1 B2 ⊢
      clear hg1
      generalize World.alloc (World.alloc w _) _ = wy at hb0 B1 B2 ⊢
      have HX : Hid (∀ wx, Below wy.heap.size wy wx → wx.cell? ⟨g1, 0, none⟩ = some (.int .i64 gd) ∧ wx.cell? ⟨g1, 1, none⟩ = some (.slice A n c) ∧ wx.cell? ⟨g1 + 1, 0, none⟩ = some (.int .i64 0) ∧ wx.cell? ⟨g1 + 1, 1, none⟩ = some (.slice none 0 0) ∧ wx.frozen? ⟨g1 + 1, 0, none⟩ = false ∧ wx.frozen? ⟨g1 + 1, 1, none⟩ = false ∧ g1 + 1 < wx.heap.size) := Lib.hid fun wx hb => by
        have b1 := B1.out.below hb B1.out.lt
        have b2 := B2.out.below hb B2.out.lt
        exact ⟨b1.cell 0, b1.cell 1, b2.cell 0, b2.cell 1, b2.frozen 0, b2.frozen 1, b2.lt⟩
      obtain ⟨c0, c1, e0, e1, f0, f1, -⟩ := HX.out wy (Below.refl _ _)
      go_upto_region 2 with (first
        | (go_at_call 40; (with_reducible refine (HRf.out _).mono ?_); rintro e wa ⟨rfl, hba⟩; have HBa := Lib.hid hba; clear hba))
      obtain ⟨c0, c1, e0, e1, f0, f1, -⟩ := HX.out wa HBa.out
      go_upto_region 5 with (first
        | (go_at_call 37; (with_reducible refine (HT2.out _ (below_next hb0.out HBa.out)).mono ?_); rintro e wb ⟨rfl, hba⟩; have HBb := Lib.hid (below_next HBa.out hba); clear hba))
      obtain ⟨c0, c1, e0, e1, f0, f1, -⟩ := HX.out wb HBb.out
      go_wp2
      (try simp only [Exit.inBlock, Exit.then])
      refine bodyPost_ret (by simp [results, Try.results30, asAddr, go_sem, e0, e1]; rfl) rfl ?_
      have hbz := below_two (below_next hb0.out HBb.out) (by rw [HG.out]; exact Nat.le_succ g1) (.int .i64 gd) (.slice A n c)
      exact rto E.out hnn.out (H.out.below hbz) hbz fun hh => absurd hh (by decide)
    · have E : Hid (y.rin (i : Int) (p : Int) m = (y.inc i p m, 0)) := Lib.hid (by rw [hE2.out, if_neg hpo])
      have hpo2 : y.rtot p ≤ 1099511627776 - m := by omega
      generalize y.rtot p = tt at HT2 hpo hpo2 ht0 ht1
      clear hE2
      go_enter Try.func30, Try.ntmps30
      go_upto_region 1 with (fail)
      have hb0 : Hid (Below w.heap.size w ((w.alloc (.cells #[.int .i64 gd, .slice A n c] 44)).alloc (.cells #[.int .i64 0, .slice none 0 0] 44))) := Lib.hid (((Below.refl _ _).alloc (Nat.le_refl _) _).alloc (by simp) _)
      have B1 : Hid (Blk ((w.alloc (.cells #[.int .i64 gd, .slice A n c] 44)).alloc (.cells #[.int .i64 0, .slice none 0 0] 44)) w.heap.size 44 #[.int .i64 gd, .slice A n c]) := Lib.hid ((Blk.new _ _ _).alloc _)
      have B2 : Hid (Blk ((w.alloc (.cells #[.int .i64 gd, .slice A n c] 44)).alloc (.cells #[.int .i64 0, .slice none 0 0] 44)) (w.heap.size + 1) 44 #[.int .i64 0, .slice none 0 0]) := Lib.hid (by have := Blk.new (w.alloc (.cells #[.int .i64 gd, .slice A n c] 44)) 44 #[.int .i64 0, .slice none 0 0]; simpa using this)
      obtain ⟨g1, hg1⟩ : ∃ g1, w.heap.size = g1 := ⟨_, rfl⟩
      have HG := Lib.hid hg1
      rw [hg1] at B1 B2 ⊢
      clear hg1
      generalize World.alloc (World.alloc w _) _ = wy at hb0 B1 B2 ⊢
      have HX : Hid (∀ wx, Below wy.heap.size wy wx → wx.cell? ⟨g1, 0, none⟩ = some (.int .i64 gd) ∧ wx.cell? ⟨g1, 1, none⟩ = some (.slice A n c) ∧ wx.cell? ⟨g1 + 1, 0, none⟩ = some (.int .i64 0) ∧ wx.cell? ⟨g1 + 1, 1, none⟩ = some (.slice none 0 0) ∧ wx.frozen? ⟨g1 + 1, 0, none⟩ = false ∧ wx.frozen? ⟨g1 + 1, 1, none⟩ = false ∧ g1 + 1 < wx.heap.size) := Lib.hid fun wx hb => by
        have b1 := B1.out.below hb B1.out.lt
        have b2 := B2.out.below hb B2.out.lt
        exact ⟨b1.cell 0, b1.cell 1, b2.cell 0, b2.cell 1, b2.frozen 0, b2.frozen 1, b2.lt⟩
      obtain ⟨c0, c1, e0, e1, f0, f1, -⟩ := HX.out wy (Below.refl _ _)
      go_upto_region 2 with (first
        | (go_at_call 40; (with_reducible refine (HRf.out _).mono ?_); rintro e wa ⟨rfl, hba⟩; have HBa := Lib.hid hba; clear hba))
      obtain ⟨c0, c1, e0, e1, f0, f1, -⟩ := HX.out wa HBa.out
      go_upto_region 6 with (first
        | (go_at_call 37; (with_reducible refine (HT2.out _ (below_next hb0.out HBa.out)).mono ?_); rintro e wb ⟨rfl, hba⟩; have HBb := Lib.hid (below_next HBa.out hba); clear hba))
      obtain ⟨c0, c1, e0, e1, f0, f1, -⟩ := HX.out wb HBb.out
      have HCp2 := Lib.hid (HCp.out wb (below_next hb0.out HBb.out))
      have hzi := Lib.hid (HK.out.num i p (by rw [hnn.out]; exact hi) (by omega))
      go_upto_region 7 with (first
        | (go_at_call 41; (refine (HCp2.out).mono ?_); rintro e wc ⟨b, o, c', rfl, hO, hbc⟩; have HO := Lib.hid hO; have HBc := Lib.hid (below_next HBb.out hbc); clear hO hbc))
      have hbd : Hid (Below wc.heap.size wc (wc.alloc (.cells #[.int .i64 gd, .slice (some ⟨b, o, none⟩) n c'] 44))) := Lib.hid ((Below.refl _ _).alloc (Nat.le_refl _) _)
      have BL : Hid (Blk (wc.alloc (.cells #[.int .i64 gd, .slice (some ⟨b, o, none⟩) n c'] 44)) wc.heap.size 44 #[.int .i64 gd, .slice (some ⟨b, o, none⟩) n c']) := Lib.hid (Blk.new _ _ _)
      have hbL : Hid (b ≠ wc.heap.size ∧ b ≠ g1 + 1 ∧ wc.heap.size ≠ g1 + 1 ∧ g1 + 1 ≤ wc.heap.size) := Lib.hid (by
        have h1 := HO.out.2.1
        have h2 := (HX.out wc HBc.out).2.2.2.2.2.2
        have h3 := HO.out.1
        have h4 := (HX.out wb HBb.out).2.2.2.2.2.2
        omega)
      obtain ⟨g3, hg3⟩ : ∃ g3, wc.heap.size = g3 := ⟨_, rfl⟩
      rw [hg3] at BL hbL ⊢
      clear hg3
      generalize hwd : World.alloc wc _ = wd at hbd BL ⊢
      have HO2 := Lib.hid (HO.out.below hbd.out)
      have HBd := Lib.hid (below_next HBc.out hbd.out)
      clear hwd c0 c1 e0 e1 f0 f1 HT2 HRf HCp
      have l1 : wd.cell? ⟨g3, 1, none⟩ = some (.slice (some ⟨b, o, none⟩) n c') := BL.out.cell 1
      obtain ⟨v1, v2⟩ := HO2.out.num (i := i) (k := p) (by rw [hnn.out]; exact hi) (by omega)
      have hiI : (i : Int) < (n : Int) := by omega
      have hi0 : (0 : Int) ≤ (i : Int) := by omega
      obtain ⟨zz0, zz1⟩ := hzi.out
      have hput : Hid ((lcells y).set (i * 12 + p) (.int .i64 (y.z i p + m)) = lcells (y.inc i p m)) := Lib.hid (lcells_set y (by omega) _)
      generalize y.z i p = zv at v1 hput zz0 zz1
      have hw1 : IntKind.i64.wrap (zv + m) = zv + m := by rw [IntKind.wrap_i64]; omega
      go_region
      generalize hws : World.drew _ = ws
      have HO3 : Hid (ROwn wb ws b o c' (y.inc i p m)) := Lib.hid (by
        rw [← hws]
        have := HO2.out.put (q := i * 12 + p) (by rw [hnn.out]; omega) (.int .i64 (zv + m)) (y' := y.inc i p m) rfl hput.out
        rw [← Nat.add_assoc] at this
        exact this.carry (Nat.le_refl _) rfl)
      have HBs : Hid (Below wy.heap.size wy ws) := Lib.hid (by rw [← hws]; exact (HBd.out.setCell (Nat.le_trans HBb.out.size HO.out.1) _).drew)
      have BL2 : Hid (Blk ws g3 44 #[.int .i64 gd, .slice (some ⟨b, o, none⟩) n c']) := Lib.hid (by rw [← hws]; exact (BL.out.far hbL.out.1.symm _).drew)
      clear hws l1 v1 v2 hw1
      obtain ⟨-, -, e0, e1, f0, f1, -⟩ := HX.out ws HBs.out
      have l0 : ws.cell? ⟨g3, 0, none⟩ = some (.int .i64 gd) := BL2.out.cell 0
      have l1 : ws.cell? ⟨g3, 1, none⟩ = some (.slice (some ⟨b, o, none⟩) n c') := BL2.out.cell 1
      go_wp2
      (try simp only [Exit.inBlock, Exit.then])
      refine bodyPost_ret (by simp [results, Try.results30, asAddr, go_sem, e0, e1]; rfl) rfl ?_
      have hbz := below_two (below_next hb0.out HBs.out) (by rw [HG.out]; exact Nat.le_succ g1) (.int .i64 gd) (.slice (some ⟨b, o, none⟩) n c')
      have hfin := (show ROwn w ws b o c' (y.inc i p m) from ⟨Nat.le_trans (below_next hb0.out HBb.out).size HO3.out.1, HO3.out.2⟩).carry (w' := (ws.setCell ⟨g1 + 1, 0, none⟩ (.int .i64 gd)).setCell ⟨g1 + 1, 1, none⟩ (.slice (some ⟨b, o, none⟩) n c')) (by simp) ((heap_setCell_other _ ⟨g1 + 1, 1, none⟩ b _ hbL.out.2.1).trans (heap_setCell_other _ ⟨g1 + 1, 0, none⟩ b _ hbL.out.2.1))
      exact rto E.out hnn.out hfin.rat hbz fun _ => ⟨b, o, rfl, hfin⟩
set_option maxHeartbeats 2000000 in
theorem out_calls (w : World) (A : Option Addr) (y : Led) (h : RAt w A y) (hk : y.ROk) (c : Nat) (who part m : Int) (gd : Int) (hgd : Hid (y.goods = gd)) :
    Calls Try.prog 31 #[.agg #[.int .i64 gd, .slice A y.n c], .int .i64 who, .int .i64 part, .int .i64 m] w (RTo w gd (y.rout who part m)) := by
  obtain ⟨b0, o0, rfl, hbl0, hnum0⟩ := h.num
  have HBL := Lib.hid hbl0
  have HN0 := Lib.hid hnum0
  clear hbl0 hnum0
  have H := Lib.hid h
  have hn := hk.len
  have HRf : Hid (∀ wx, Calls Try.prog 40 #[.agg #[.int .i64 gd, .slice (some ⟨b0, o0, none⟩) y.n c], .int .i64 who, .int .i64 part, .int .i64 m] wx fun e w' => e = .returned (.int .i64 (y.rerr who part m)) ∧ Below wx.heap.size wx w') := Lib.hid fun wx => by
    have := refused_calls wx (some ⟨b0, o0, none⟩) y hk c who part m
    rw [hgd.out] at this
    exact this
  have HCp := Lib.hid (fun wx (hb : Below w.heap.size w wx) => copy_calls (H.out.below hb) hk.len c gd)
  have HK := Lib.hid hk
  have hE : Hid (y.rout who part m = if y.rerr who part m ≠ 0 then (y, y.rerr who part m) else if y.z who.toNat part.toNat < m then (y, 61) else (y.inc who.toNat part.toNat (-m), 0)) := Lib.hid rfl
  obtain ⟨n, hnn⟩ : ∃ n, Hid (y.n = n) := ⟨_, Lib.hid rfl⟩
  rw [hnn.out] at hn HRf HCp ⊢
  clear h hk
  by_cases he : y.rerr who part m ≠ 0
  · have E : Hid (y.rout who part m = (y, y.rerr who part m)) := Lib.hid (by rw [hE.out, if_pos he])
    have heB : (y.rerr who part m != 0) = true := by simpa using he
    clear hE
    generalize y.rerr who part m = er at HRf heB he E
    go_enter Try.func31, Try.ntmps31
    go_upto_region 1 with (fail)
    have hb0 : Hid (Below w.heap.size w ((w.alloc (.cells #[.int .i64 gd, .slice (some ⟨b0, o0, none⟩) n c] 44)).alloc (.cells #[.int .i64 0, .slice none 0 0] 44))) := Lib.hid (((Below.refl _ _).alloc (Nat.le_refl _) _).alloc (by simp) _)
    have B1 : Hid (Blk ((w.alloc (.cells #[.int .i64 gd, .slice (some ⟨b0, o0, none⟩) n c] 44)).alloc (.cells #[.int .i64 0, .slice none 0 0] 44)) w.heap.size 44 #[.int .i64 gd, .slice (some ⟨b0, o0, none⟩) n c]) := Lib.hid ((Blk.new _ _ _).alloc _)
    have B2 : Hid (Blk ((w.alloc (.cells #[.int .i64 gd, .slice (some ⟨b0, o0, none⟩) n c] 44)).alloc (.cells #[.int .i64 0, .slice none 0 0] 44)) (w.heap.size + 1) 44 #[.int .i64 0, .slice none 0 0]) := Lib.hid (by have := Blk.new (w.alloc (.cells #[.int .i64 gd, .slice (some ⟨b0, o0, none⟩) n c] 44)) 44 #[.int .i64 0, .slice none 0 0]; simpa using this)
    obtain ⟨g1, hg1⟩ : ∃ g1, w.heap.size = g1 := ⟨_, rfl⟩
    have HG := Lib.hid hg1
    rw [hg1] at B1 B2 ⊢
    clear hg1
    generalize World.alloc (World.alloc w _) _ = wy at hb0 B1 B2 ⊢
    have HX : Hid (∀ wx, Below wy.heap.size wy wx → wx.cell? ⟨g1, 0, none⟩ = some (.int .i64 gd) ∧ wx.cell? ⟨g1, 1, none⟩ = some (.slice (some ⟨b0, o0, none⟩) n c) ∧ wx.cell? ⟨g1 + 1, 0, none⟩ = some (.int .i64 0) ∧ wx.cell? ⟨g1 + 1, 1, none⟩ = some (.slice none 0 0) ∧ wx.frozen? ⟨g1 + 1, 0, none⟩ = false ∧ wx.frozen? ⟨g1 + 1, 1, none⟩ = false ∧ g1 + 1 < wx.heap.size) := Lib.hid fun wx hb => by
      have b1 := B1.out.below hb B1.out.lt
      have b2 := B2.out.below hb B2.out.lt
      exact ⟨b1.cell 0, b1.cell 1, b2.cell 0, b2.cell 1, b2.frozen 0, b2.frozen 1, b2.lt⟩
    obtain ⟨c0, c1, e0, e1, f0, f1, -⟩ := HX.out wy (Below.refl _ _)
    go_upto_region 2 with (first
      | (go_at_call 40; (with_reducible refine (HRf.out _).mono ?_); rintro e wa ⟨rfl, hba⟩; have HBa := Lib.hid hba; clear hba))
    obtain ⟨c0, c1, e0, e1, f0, f1, -⟩ := HX.out wa HBa.out
    go_wp2
    (try simp only [Exit.inBlock, Exit.then])
    refine bodyPost_ret (by simp [results, Try.results31, asAddr, go_sem, e0, e1]; rfl) rfl ?_
    have hbz := below_two (below_next hb0.out HBa.out) (by rw [HG.out]; exact Nat.le_succ g1) (.int .i64 gd) (.slice (some ⟨b0, o0, none⟩) n c)
    exact rto E.out hnn.out (H.out.below hbz) hbz fun hh => absurd hh he
  · have he0 := Classical.not_not.1 he
    obtain ⟨w0, w1, p0, p1, m0, m1⟩ := Led.rerr_ok he0
    rw [hnn.out] at w1
    have hg4 := HK.out.kinds.2
    obtain ⟨i, rfl⟩ : ∃ i : Nat, who = (i : Int) := ⟨who.toNat, by omega⟩
    obtain ⟨p, rfl⟩ : ∃ p : Nat, part = (p : Int) := ⟨part.toNat, by omega⟩
    have hi : i < n := by omega
    have hp : p < 5 := by omega
    have hp5 : (p : Int) < 5 := by omega
    have hrf0 := he0
    rw [hrf0] at HRf
    have hE2 : Hid (y.rout (i : Int) (p : Int) m = if y.z i p < m then (y, 61) else (y.inc i p (-m), 0)) := Lib.hid (by rw [hE.out, if_neg he]; rfl)
    clear hE he he0 hrf0 hg4
    have hzz := HK.out.num i p (by rw [hnn.out]; exact hi) (by omega)
    have hi0' : (0 : Int) ≤ (i : Int) := by omega
    have hiI' : (i : Int) < (n : Int) := by omega
    have hcell : Hid (∀ wx, Below w.heap.size w wx → wx.cell? ⟨b0, o0 + i * 12 + p, none⟩ = some (.int .i64 (y.z i p))) := Lib.hid fun wx hb => (below_cell hb HBL.out).trans (HN0.out i p (by rw [hnn.out]; exact hi) (by omega))
    by_cases hpo : y.z i p < m
    · have E : Hid (y.rout (i : Int) (p : Int) m = (y, 61)) := Lib.hid (by rw [hE2.out, if_pos hpo])
      generalize hzv : y.z i p = zv at hcell hpo hzz
      clear hE2 hzv
      go_enter Try.func31, Try.ntmps31
      go_upto_region 1 with (fail)
      have hb0 : Hid (Below w.heap.size w ((w.alloc (.cells #[.int .i64 gd, .slice (some ⟨b0, o0, none⟩) n c] 44)).alloc (.cells #[.int .i64 0, .slice none 0 0] 44))) := Lib.hid (((Below.refl _ _).alloc (Nat.le_refl _) _).alloc (by simp) _)
      have B1 : Hid (Blk ((w.alloc (.cells #[.int .i64 gd, .slice (some ⟨b0, o0, none⟩) n c] 44)).alloc (.cells #[.int .i64 0, .slice none 0 0] 44)) w.heap.size 44 #[.int .i64 gd, .slice (some ⟨b0, o0, none⟩) n c]) := Lib.hid ((Blk.new _ _ _).alloc _)
      have B2 : Hid (Blk ((w.alloc (.cells #[.int .i64 gd, .slice (some ⟨b0, o0, none⟩) n c] 44)).alloc (.cells #[.int .i64 0, .slice none 0 0] 44)) (w.heap.size + 1) 44 #[.int .i64 0, .slice none 0 0]) := Lib.hid (by have := Blk.new (w.alloc (.cells #[.int .i64 gd, .slice (some ⟨b0, o0, none⟩) n c] 44)) 44 #[.int .i64 0, .slice none 0 0]; simpa using this)
      obtain ⟨g1, hg1⟩ : ∃ g1, w.heap.size = g1 := ⟨_, rfl⟩
      have HG := Lib.hid hg1
      rw [hg1] at B1 B2 ⊢
      clear hg1
      generalize World.alloc (World.alloc w _) _ = wy at hb0 B1 B2 ⊢
      have HX : Hid (∀ wx, Below wy.heap.size wy wx → wx.cell? ⟨g1, 0, none⟩ = some (.int .i64 gd) ∧ wx.cell? ⟨g1, 1, none⟩ = some (.slice (some ⟨b0, o0, none⟩) n c) ∧ wx.cell? ⟨g1 + 1, 0, none⟩ = some (.int .i64 0) ∧ wx.cell? ⟨g1 + 1, 1, none⟩ = some (.slice none 0 0) ∧ wx.frozen? ⟨g1 + 1, 0, none⟩ = false ∧ wx.frozen? ⟨g1 + 1, 1, none⟩ = false ∧ g1 + 1 < wx.heap.size) := Lib.hid fun wx hb => by
        have b1 := B1.out.below hb B1.out.lt
        have b2 := B2.out.below hb B2.out.lt
        exact ⟨b1.cell 0, b1.cell 1, b2.cell 0, b2.cell 1, b2.frozen 0, b2.frozen 1, b2.lt⟩
      obtain ⟨c0, c1, e0, e1, f0, f1, -⟩ := HX.out wy (Below.refl _ _)
      go_upto_region 2 with (first
        | (go_at_call 40; (with_reducible refine (HRf.out _).mono ?_); rintro e wb ⟨rfl, hba⟩; have HBb := Lib.hid hba; clear hba))
      obtain ⟨c0, c1, e0, e1, f0, f1, -⟩ := HX.out wb HBb.out
      have z0 := hcell.out wb (below_next hb0.out HBb.out)
      go_wp2
      (try simp only [Exit.inBlock, Exit.then])
      refine bodyPost_ret (by simp [results, Try.results31, asAddr, go_sem, e0, e1]; rfl) rfl ?_
      have hbz := below_two (below_next hb0.out HBb.out) (by rw [HG.out]; exact Nat.le_succ g1) (.int .i64 gd) (.slice (some ⟨b0, o0, none⟩) n c)
      exact rto E.out hnn.out (H.out.below hbz) hbz fun hh => absurd hh (by decide)
    · have E : Hid (y.rout (i : Int) (p : Int) m = (y.inc i p (-m), 0)) := Lib.hid (by rw [hE2.out, if_neg hpo])
      have hpoB : decide (y.z i p < m) = false := by simpa using hpo
      clear hE2
      go_enter Try.func31, Try.ntmps31
      go_upto_region 1 with (fail)
      have hb0 : Hid (Below w.heap.size w ((w.alloc (.cells #[.int .i64 gd, .slice (some ⟨b0, o0, none⟩) n c] 44)).alloc (.cells #[.int .i64 0, .slice none 0 0] 44))) := Lib.hid (((Below.refl _ _).alloc (Nat.le_refl _) _).alloc (by simp) _)
      have B1 : Hid (Blk ((w.alloc (.cells #[.int .i64 gd, .slice (some ⟨b0, o0, none⟩) n c] 44)).alloc (.cells #[.int .i64 0, .slice none 0 0] 44)) w.heap.size 44 #[.int .i64 gd, .slice (some ⟨b0, o0, none⟩) n c]) := Lib.hid ((Blk.new _ _ _).alloc _)
      have B2 : Hid (Blk ((w.alloc (.cells #[.int .i64 gd, .slice (some ⟨b0, o0, none⟩) n c] 44)).alloc (.cells #[.int .i64 0, .slice none 0 0] 44)) (w.heap.size + 1) 44 #[.int .i64 0, .slice none 0 0]) := Lib.hid (by have := Blk.new (w.alloc (.cells #[.int .i64 gd, .slice (some ⟨b0, o0, none⟩) n c] 44)) 44 #[.int .i64 0, .slice none 0 0]; simpa using this)
      obtain ⟨g1, hg1⟩ : ∃ g1, w.heap.size = g1 := ⟨_, rfl⟩
      have HG := Lib.hid hg1
      rw [hg1] at B1 B2 ⊢
      clear hg1
      generalize World.alloc (World.alloc w _) _ = wy at hb0 B1 B2 ⊢
      have HX : Hid (∀ wx, Below wy.heap.size wy wx → wx.cell? ⟨g1, 0, none⟩ = some (.int .i64 gd) ∧ wx.cell? ⟨g1, 1, none⟩ = some (.slice (some ⟨b0, o0, none⟩) n c) ∧ wx.cell? ⟨g1 + 1, 0, none⟩ = some (.int .i64 0) ∧ wx.cell? ⟨g1 + 1, 1, none⟩ = some (.slice none 0 0) ∧ wx.frozen? ⟨g1 + 1, 0, none⟩ = false ∧ wx.frozen? ⟨g1 + 1, 1, none⟩ = false ∧ g1 + 1 < wx.heap.size) := Lib.hid fun wx hb => by
        have b1 := B1.out.below hb B1.out.lt
        have b2 := B2.out.below hb B2.out.lt
        exact ⟨b1.cell 0, b1.cell 1, b2.cell 0, b2.cell 1, b2.frozen 0, b2.frozen 1, b2.lt⟩
      obtain ⟨c0, c1, e0, e1, f0, f1, -⟩ := HX.out wy (Below.refl _ _)
      go_upto_region 2 with (first
        | (go_at_call 40; (with_reducible refine (HRf.out _).mono ?_); rintro e wb ⟨rfl, hba⟩; have HBb := Lib.hid hba; clear hba))
      obtain ⟨c0, c1, e0, e1, f0, f1, -⟩ := HX.out wb HBb.out
      have z0 := hcell.out wb (below_next hb0.out HBb.out)
      go_upto_region 6 with (fail)
      clear z0 hpoB
      have HCp2 := Lib.hid (HCp.out wb (below_next hb0.out HBb.out))
      have hzi := Lib.hid (HK.out.num i p (by rw [hnn.out]; exact hi) (by omega))
      go_upto_region 7 with (first
        | (go_at_call 41; (refine (HCp2.out).mono ?_); rintro e wc ⟨b, o, c', rfl, hO, hbc⟩; have HO := Lib.hid hO; have HBc := Lib.hid (below_next HBb.out hbc); clear hO hbc))
      have hbd : Hid (Below wc.heap.size wc (wc.alloc (.cells #[.int .i64 gd, .slice (some ⟨b, o, none⟩) n c'] 44))) := Lib.hid ((Below.refl _ _).alloc (Nat.le_refl _) _)
      have BL : Hid (Blk (wc.alloc (.cells #[.int .i64 gd, .slice (some ⟨b, o, none⟩) n c'] 44)) wc.heap.size 44 #[.int .i64 gd, .slice (some ⟨b, o, none⟩) n c']) := Lib.hid (Blk.new _ _ _)
      have hbL : Hid (b ≠ wc.heap.size ∧ b ≠ g1 + 1 ∧ wc.heap.size ≠ g1 + 1 ∧ g1 + 1 ≤ wc.heap.size) := Lib.hid (by
        have h1 := HO.out.2.1
        have h2 := (HX.out wc HBc.out).2.2.2.2.2.2
        have h3 := HO.out.1
        have h4 := (HX.out wb HBb.out).2.2.2.2.2.2
        omega)
      obtain ⟨g3, hg3⟩ : ∃ g3, wc.heap.size = g3 := ⟨_, rfl⟩
      rw [hg3] at BL hbL ⊢
      clear hg3
      generalize hwd : World.alloc wc _ = wd at hbd BL ⊢
      have HO2 := Lib.hid (HO.out.below hbd.out)
      have HBd := Lib.hid (below_next HBc.out hbd.out)
      clear hwd c0 c1 e0 e1 f0 f1 HRf HCp
      have l1 : wd.cell? ⟨g3, 1, none⟩ = some (.slice (some ⟨b, o, none⟩) n c') := BL.out.cell 1
      obtain ⟨v1, v2⟩ := HO2.out.num (i := i) (k := p) (by rw [hnn.out]; exact hi) (by omega)
      have hiI : (i : Int) < (n : Int) := by omega
      have hi0 : (0 : Int) ≤ (i : Int) := by omega
      obtain ⟨zz0, zz1⟩ := hzi.out
      have hput : Hid ((lcells y).set (i * 12 + p) (.int .i64 (y.z i p - m)) = lcells (y.inc i p (-m))) := Lib.hid (by rw [Int.sub_eq_add_neg]; exact lcells_set y (by omega) _)
      generalize y.z i p = zv at v1 hput zz0 zz1
      have hw1 : IntKind.i64.wrap (zv - m) = zv - m := by rw [IntKind.wrap_i64]; omega
      go_region
      generalize hws : World.drew _ = ws
      have HO3 : Hid (ROwn wb ws b o c' (y.inc i p (-m))) := Lib.hid (by
        rw [← hws]
        have := HO2.out.put (q := i * 12 + p) (by rw [hnn.out]; omega) (.int .i64 (zv - m)) (y' := y.inc i p (-m)) rfl hput.out
        rw [← Nat.add_assoc] at this
        exact this.carry (Nat.le_refl _) rfl)
      have HBs : Hid (Below wy.heap.size wy ws) := Lib.hid (by rw [← hws]; exact (HBd.out.setCell (Nat.le_trans HBb.out.size HO.out.1) _).drew)
      have BL2 : Hid (Blk ws g3 44 #[.int .i64 gd, .slice (some ⟨b, o, none⟩) n c']) := Lib.hid (by rw [← hws]; exact (BL.out.far hbL.out.1.symm _).drew)
      clear hws l1 v1 v2 hw1
      obtain ⟨-, -, e0, e1, f0, f1, -⟩ := HX.out ws HBs.out
      have l0 : ws.cell? ⟨g3, 0, none⟩ = some (.int .i64 gd) := BL2.out.cell 0
      have l1 : ws.cell? ⟨g3, 1, none⟩ = some (.slice (some ⟨b, o, none⟩) n c') := BL2.out.cell 1
      go_wp2
      (try simp only [Exit.inBlock, Exit.then])
      refine bodyPost_ret (by simp [results, Try.results31, asAddr, go_sem, e0, e1]; rfl) rfl ?_
      have hbz := below_two (below_next hb0.out HBs.out) (by rw [HG.out]; exact Nat.le_succ g1) (.int .i64 gd) (.slice (some ⟨b, o, none⟩) n c')
      have hfin := (show ROwn w ws b o c' (y.inc i p (-m)) from ⟨Nat.le_trans (below_next hb0.out HBb.out).size HO3.out.1, HO3.out.2⟩).carry (w' := (ws.setCell ⟨g1 + 1, 0, none⟩ (.int .i64 gd)).setCell ⟨g1 + 1, 1, none⟩ (.slice (some ⟨b, o, none⟩) n c')) (by simp) ((heap_setCell_other _ ⟨g1 + 1, 1, none⟩ b _ hbL.out.2.1).trans (heap_setCell_other _ ⟨g1 + 1, 0, none⟩ b _ hbL.out.2.1))
      exact rto E.out hnn.out hfin.rat hbz fun _ => ⟨b, o, rfl, hfin⟩
end Go.Proofs.Ythhjockofihohaa
