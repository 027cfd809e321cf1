/- The reference's Keep. -/
import Derived.Test.YthhjockofihohaaRefI
namespace Go.Proofs.Ythhjockofihohaa
open Go.RowKit
theorem rout_ok {y : Led} {who part m : Int} (h : (y.rout who part m).2 = 0) : y.rerr who part m = 0 ∧ y.rout who part m = (y.inc who.toNat part.toNat (-m), 0) := by
  unfold Led.rout at h ⊢
  by_cases he : y.rerr who part m ≠ 0
  · rw [if_pos he] at h; exact absurd h he
  · rw [if_neg he] at h ⊢
    refine ⟨Classical.not_not.1 he, ?_⟩
    by_cases hp : y.z who.toNat part.toNat < m
    · rw [if_pos hp] at h; exact absurd (show (61 : Int) = 0 from h) (by decide)
    · rw [if_neg hp]
theorem rout_n (y : Led) (who part m : Int) : (y.rout who part m).1.n = y.n := by
  unfold Led.rout
  split
  · rfl
  · split <;> rfl
/-- A cell of a kept part. -/
theorem ROwn.kept {w0 w : World} {b o c : Nat} {y : Led} (h : ROwn w0 w b o c y) {i p : Nat} (hi : i < y.n) (hp : p < 5) : w.cell? ⟨b, o + i * 12 + 5 + p, none⟩ = some (.int .i64 (y.z i (5 + p))) ∧ w.frozen? ⟨b, o + i * 12 + 5 + p, none⟩ = false := by
  have := h.num hi (k := 5 + p) (by omega)
  rw [← Nat.add_assoc] at this
  exact this
theorem ROwn.putKept {w0 w : World} {b o c : Nat} {y : Led} (h : ROwn w0 w b o c y) {i p : Nat} (hi : i < y.n) (hp : p < 5) (v d : Int) (hv : v = y.z i (5 + p) + d) : ROwn w0 (w.setCell ⟨b, o + i * 12 + 5 + p, none⟩ (.int .i64 v)) b o c (y.inc i (5 + p) d) := by
  have := h.put (q := i * 12 + (5 + p)) (by omega) (.int .i64 v) (y' := y.inc i (5 + p) d) rfl (by rw [hv]; exact lcells_set y (by omega) _)
  rw [show o + (i * 12 + (5 + p)) = o + i * 12 + 5 + p from by omega] at this
  exact this
theorem ROwn.putFree {w0 w : World} {b o c : Nat} {y : Led} (h : ROwn w0 w b o c y) {i p : Nat} (hi : i < y.n) (hp : p < 5) (v d : Int) (hv : v = y.z i p + d) : ROwn w0 (w.setCell ⟨b, o + i * 12 + p, none⟩ (.int .i64 v)) b o c (y.inc i p d) := by
  have := h.put (q := i * 12 + p) (by omega) (.int .i64 v) (y' := y.inc i p d) rfl (by rw [hv]; exact lcells_set y (by omega) _)
  rw [← Nat.add_assoc] at this
  exact this
theorem ROwn.drew {w0 w : World} {b o c : Nat} {y : Led} (h : ROwn w0 w b o c y) : ROwn w0 w.drew b o c y := h.carry (Nat.le_refl _) rfl
theorem ROwn.two {w0 w : World} {b o c g1 : Nat} {y : Led} (h : ROwn w0 w b o c y) (hg : b ≠ g1 + 1) (u v : Value) : ROwn w0 ((w.setCell ⟨g1 + 1, 0, none⟩ u).setCell ⟨g1 + 1, 1, none⟩ v) b o c y :=
  h.carry (by simp) ((heap_setCell_other _ ⟨g1 + 1, 1, none⟩ b _ hg).trans (heap_setCell_other _ ⟨g1 + 1, 0, none⟩ b _ hg))
theorem RAt.two {w : World} {A : Option Addr} {g1 : Nat} {y : Led} (h : RAt w A y) (hg : ∀ b o, A = some ⟨b, o, none⟩ → b ≠ g1 + 1) (u v : Value) : RAt ((w.setCell ⟨g1 + 1, 0, none⟩ u).setCell ⟨g1 + 1, 1, none⟩ v) A y := by
  obtain ⟨b, o, h1, h2, h3⟩ := h
  have e : ((w.setCell ⟨g1 + 1, 0, none⟩ u).setCell ⟨g1 + 1, 1, none⟩ v).heap[b]? = w.heap[b]? := (heap_setCell_other _ ⟨g1 + 1, 1, none⟩ b _ (hg b o h1)).trans (heap_setCell_other _ ⟨g1 + 1, 0, none⟩ b _ (hg b o h1))
  exact ⟨b, o, h1, by simpa using h2, fun j hj => by rw [World.cell?_of_block (a := ⟨b, o + j, none⟩) e]; exact h3 j hj⟩
theorem RAt.off2 {w : World} {A : Option Addr} {y : Led} (h : RAt w A y) (hn : 1 ≤ y.n) {g : Nat} {t : TypeId} {u v : Value} (hB : Blk w g t #[u, v]) : ∀ b o, A = some ⟨b, o, none⟩ → b ≠ g := by
  intro b o hA e
  obtain ⟨b', o', h1, _, h3⟩ := h
  rw [hA] at h1
  cases h1
  have := h3 11 (by omega)
  rw [e, hB.cell, List.getElem?_eq_getElem (by rw [lcells_length]; omega), Array.getElem?_eq_none (by simp)] at this
  cases this
theorem ROwn.weak {w0 w1 w : World} {b o c : Nat} {y : Led} (h : ROwn w1 w b o c y) (hs : w0.heap.size ≤ w1.heap.size) : ROwn w0 w b o c y := ⟨Nat.le_trans hs h.1, h.2⟩
set_option maxHeartbeats 2000000 in
theorem keep_calls (w : World) (A : Option Addr) (y : Led) (h : RAt w A y) (hk : y.ROk) (c : Nat) (who part m : Int) (gd : Int) (hgd : Hid (y.goods = gd)) :
    Calls Try.prog 33 #[.agg #[.int .i64 gd, .slice A y.n c], .int .i64 who, .int .i64 part, .int .i64 m] w (RTo w gd (y.rkeep who part m)) := by
  have HOut := Lib.hid (fun wx (hb : Below w.heap.size w wx) => out_calls wx A y (h.below hb) hk c who part m gd hgd)
  have HK := Lib.hid hk
  have hrn := Lib.hid (rout_n y who part m)
  have hE : Hid (y.rkeep who part m = if (y.rout who part m).2 = 0 then ((y.rout who part m).1.inc who.toNat (5 + part.toNat) m, 0) else y.rout who part m) := Lib.hid rfl
  have hok := Lib.hid (fun hh => rout_ok (y := y) (who := who) (part := part) (m := m) hh)
  obtain ⟨n, hnn⟩ : ∃ n, Hid (y.n = n) := ⟨_, Lib.hid rfl⟩
  rw [hnn.out] at HOut hrn ⊢
  clear h hk
  by_cases h0 : (y.rout who part m).2 = 0
  · obtain ⟨hr0, hr1⟩ := hok.out h0
    have E : Hid (y.rkeep who part m = ((y.inc who.toNat part.toNat (-m)).inc who.toNat (5 + part.toNat) m, 0)) := Lib.hid (by rw [hE.out, if_pos h0, hr1])
    rw [hr1] at HOut
    obtain ⟨w0, w1, p0, p1, m0, m1⟩ := Led.rerr_ok hr0
    rw [hnn.out] at w1
    have hg4 := HK.out.kinds.2
    obtain ⟨i, rfl⟩ : ∃ i : Nat, who = (i : Int) := ⟨who.toNat, by omega⟩
    obtain ⟨p, rfl⟩ : ∃ p : Nat, part = (p : Int) := ⟨part.toNat, by omega⟩
    have hi : i < n := by omega
    have hp : p < 5 := by omega
    have hp5 : (p : Int) < 5 := by omega
    have hzz := HK.out.num i (5 + p) (by rw [hnn.out]; exact hi) (by omega)
    have hz2 : Hid ((y.inc i p (-m)).z i (5 + p) = y.z i (5 + p)) := Lib.hid (by rw [Led.inc_at, if_neg (by omega)])
    rw [Int.toNat_natCast, Int.toNat_natCast] at E HOut
    clear hE hr0 hr1 h0 hg4 hok
    go_enter Try.func33, Try.ntmps33
    go_upto_region 1 with (fail)
    have hb0 : Hid (Below w.heap.size w ((w.alloc (.cells #[.int .i64 gd, .slice A n c] 44)).alloc (.cells #[.int .i64 0, .slice none 0 0] 44))) := Lib.hid (((Below.refl _ _).alloc (Nat.le_refl _) _).alloc (by simp) _)
    have B1 : Hid (Blk ((w.alloc (.cells #[.int .i64 gd, .slice A n c] 44)).alloc (.cells #[.int .i64 0, .slice none 0 0] 44)) w.heap.size 44 #[.int .i64 gd, .slice A n c]) := Lib.hid ((Blk.new _ _ _).alloc _)
    have B2 : Hid (Blk ((w.alloc (.cells #[.int .i64 gd, .slice A n c] 44)).alloc (.cells #[.int .i64 0, .slice none 0 0] 44)) (w.heap.size + 1) 44 #[.int .i64 0, .slice none 0 0]) := Lib.hid (by have := Blk.new (w.alloc (.cells #[.int .i64 gd, .slice A n c] 44)) 44 #[.int .i64 0, .slice none 0 0]; simpa using this)
    obtain ⟨g1, hg1⟩ : ∃ g1, w.heap.size = g1 := ⟨_, rfl⟩
    have HG := Lib.hid hg1
    rw [hg1] at B1 B2 ⊢
    clear hg1
    generalize World.alloc (World.alloc w _) _ = wy at hb0 B1 B2 ⊢
    have HX : Hid (∀ wx, Below wy.heap.size wy wx → wx.cell? ⟨g1, 0, none⟩ = some (.int .i64 gd) ∧ wx.cell? ⟨g1, 1, none⟩ = some (.slice A n c) ∧ wx.cell? ⟨g1 + 1, 0, none⟩ = some (.int .i64 0) ∧ wx.cell? ⟨g1 + 1, 1, none⟩ = some (.slice none 0 0) ∧ wx.frozen? ⟨g1 + 1, 0, none⟩ = false ∧ wx.frozen? ⟨g1 + 1, 1, none⟩ = false ∧ g1 + 1 < wx.heap.size) := Lib.hid fun wx hb => by
      have b1 := B1.out.below hb B1.out.lt
      have b2 := B2.out.below hb B2.out.lt
      exact ⟨b1.cell 0, b1.cell 1, b2.cell 0, b2.cell 1, b2.frozen 0, b2.frozen 1, b2.lt⟩
    obtain ⟨c0, c1, e0, e1, f0, f1, -⟩ := HX.out wy (Below.refl _ _)
    have HO1 := Lib.hid (HOut.out _ hb0.out)
    go_upto_region 2 with (first
      | (go_at_call 31; (refine (HO1.out).mono ?_); rintro e wa ⟨A', c', rfl, hR, hba, hOw⟩; have HBa := Lib.hid hba; have HOw := Lib.hid (hOw rfl); clear hba hR hOw))
    obtain ⟨b, o, hAe, hO⟩ := HOw.out
    subst hAe
    have HO := Lib.hid hO
    clear hO HOw
    have hbd : Hid (Below wa.heap.size wa (wa.alloc (.cells #[.int .i64 gd, .slice (some ⟨b, o, none⟩) (y.inc i p (-m)).n c'] 44))) := Lib.hid ((Below.refl _ _).alloc (Nat.le_refl _) _)
    have BL : Hid (Blk (wa.alloc (.cells #[.int .i64 gd, .slice (some ⟨b, o, none⟩) (y.inc i p (-m)).n c'] 44)) wa.heap.size 44 #[.int .i64 gd, .slice (some ⟨b, o, none⟩) (y.inc i p (-m)).n c']) := Lib.hid (Blk.new _ _ _)
    have hbL : Hid (b ≠ wa.heap.size ∧ b ≠ g1 + 1) := Lib.hid (by
      have h1 := HO.out.2.1
      have h3 := HO.out.1
      have h4 := (HX.out wy (Below.refl _ _)).2.2.2.2.2.2
      omega)
    obtain ⟨g3, hg3⟩ : ∃ g3, wa.heap.size = g3 := ⟨_, rfl⟩
    rw [hg3] at BL hbL ⊢
    clear hg3
    have hn2 : (y.inc i p (-m)).n = n := hnn.out
    rw [hn2] at BL hbd ⊢
    have HN2 := Lib.hid hn2
    clear hn2
    generalize hwd : World.alloc wa _ = wd at hbd BL ⊢
    have HO2 := Lib.hid (HO.out.below hbd.out)
    have HBd := Lib.hid (below_next HBa.out hbd.out)
    clear hwd c0 c1 e0 e1 f0 f1 HOut HO1
    go_upto_region 3 with (fail)
    have l1 : wd.cell? ⟨g3, 1, none⟩ = some (.slice (some ⟨b, o, none⟩) n c') := BL.out.cell 1
    obtain ⟨v1, v2⟩ := HO2.out.kept (i := i) (p := p) (by rw [HN2.out]; exact hi) hp
    rw [hz2.out] at v1
    have hiI : (i : Int) < (n : Int) := by omega
    have hi0 : (0 : Int) ≤ (i : Int) := by omega
    obtain ⟨zz0, zz1⟩ := hzz
    obtain ⟨zv, hzv⟩ : ∃ zv, Hid (y.z i (5 + p) = zv) := ⟨_, Lib.hid rfl⟩
    rw [hzv.out] at v1 zz0 zz1
    have hw1 : IntKind.i64.wrap (zv + m) = zv + m := by rw [IntKind.wrap_i64]; omega
    go_region
    generalize hws : World.drew _ = ws
    have HO3 : Hid (ROwn wy ws b o c' ((y.inc i p (-m)).inc i (5 + p) m)) := Lib.hid (by
      rw [← hws]
      exact (HO2.out.putKept (i := i) (p := p) (by rw [HN2.out]; exact hi) hp (zv + m) m (by rw [hz2.out, hzv.out])).drew)
    have HBs : Hid (Below wy.heap.size wy ws) := Lib.hid (by rw [← hws]; exact (HBd.out.setCell HO.out.1 _).drew)
    have BL2 : Hid (Blk ws g3 44 #[.int .i64 gd, .slice (some ⟨b, o, none⟩) n c']) := Lib.hid (by rw [← hws]; exact (BL.out.far hbL.out.1.symm _).drew)
    clear hws l1 v1 v2 hw1
    obtain ⟨-, -, e0, e1, f0, f1, -⟩ := HX.out ws HBs.out
    have l0 : ws.cell? ⟨g3, 0, none⟩ = some (.int .i64 gd) := BL2.out.cell 0
    have l1 : ws.cell? ⟨g3, 1, none⟩ = some (.slice (some ⟨b, o, none⟩) n c') := BL2.out.cell 1
    go_wp2
    (try simp only [Exit.inBlock, Exit.then])
    refine bodyPost_ret (by simp [results, Try.results33, asAddr, go_sem, e0, e1]; rfl) rfl ?_
    have hbz := below_two (below_next hb0.out HBs.out) (by rw [HG.out]; exact Nat.le_succ g1) (.int .i64 gd) (.slice (some ⟨b, o, none⟩) n c')
    have hfin := (HO3.out.weak hb0.out.size).two (g1 := g1) hbL.out.2 (.int .i64 gd) (.slice (some ⟨b, o, none⟩) n c')
    exact rto E.out hnn.out hfin.rat hbz fun _ => ⟨b, o, rfl, hfin⟩
  · have E : Hid (y.rkeep who part m = y.rout who part m) := Lib.hid (by rw [hE.out, if_neg h0])
    rw [E.out]
    have h0B : ((y.rout who part m).2 == 0) = false := by simpa using h0
    have HH0 := Lib.hid h0
    generalize y.rout who part m = r at HOut h0B HH0 hrn
    obtain ⟨y1, cc⟩ := r
    simp only at h0B hrn HH0
    clear hE E h0 hok
    go_enter Try.func33, Try.ntmps33
    go_upto_region 1 with (fail)
    have hb0 : Hid (Below w.heap.size w ((w.alloc (.cells #[.int .i64 gd, .slice A n c] 44)).alloc (.cells #[.int .i64 0, .slice none 0 0] 44))) := Lib.hid (((Below.refl _ _).alloc (Nat.le_refl _) _).alloc (by simp) _)
    have B1 : Hid (Blk ((w.alloc (.cells #[.int .i64 gd, .slice A n c] 44)).alloc (.cells #[.int .i64 0, .slice none 0 0] 44)) w.heap.size 44 #[.int .i64 gd, .slice A n c]) := Lib.hid ((Blk.new _ _ _).alloc _)
    have B2 : Hid (Blk ((w.alloc (.cells #[.int .i64 gd, .slice A n c] 44)).alloc (.cells #[.int .i64 0, .slice none 0 0] 44)) (w.heap.size + 1) 44 #[.int .i64 0, .slice none 0 0]) := Lib.hid (by have := Blk.new (w.alloc (.cells #[.int .i64 gd, .slice A n c] 44)) 44 #[.int .i64 0, .slice none 0 0]; simpa using this)
    obtain ⟨g1, hg1⟩ : ∃ g1, w.heap.size = g1 := ⟨_, rfl⟩
    have HG := Lib.hid hg1
    rw [hg1] at B1 B2 ⊢
    clear hg1
    generalize World.alloc (World.alloc w _) _ = wy at hb0 B1 B2 ⊢
    have HX : Hid (∀ wx, Below wy.heap.size wy wx → wx.cell? ⟨g1, 0, none⟩ = some (.int .i64 gd) ∧ wx.cell? ⟨g1, 1, none⟩ = some (.slice A n c) ∧ wx.cell? ⟨g1 + 1, 0, none⟩ = some (.int .i64 0) ∧ wx.cell? ⟨g1 + 1, 1, none⟩ = some (.slice none 0 0) ∧ wx.frozen? ⟨g1 + 1, 0, none⟩ = false ∧ wx.frozen? ⟨g1 + 1, 1, none⟩ = false ∧ g1 + 1 < wx.heap.size) := Lib.hid fun wx hb => by
      have b1 := B1.out.below hb B1.out.lt
      have b2 := B2.out.below hb B2.out.lt
      exact ⟨b1.cell 0, b1.cell 1, b2.cell 0, b2.cell 1, b2.frozen 0, b2.frozen 1, b2.lt⟩
    obtain ⟨c0, c1, e0, e1, f0, f1, -⟩ := HX.out wy (Below.refl _ _)
    have HO1 := Lib.hid (HOut.out _ hb0.out)
    go_upto_region 2 with (first
      | (go_at_call 31; (refine (HO1.out).mono ?_); rintro e wa ⟨A', c', rfl, hR, hba, -⟩; have HBa := Lib.hid hba; have HR := Lib.hid hR; clear hba hR))
    rw [hrn.out]
    have hn1 : 1 ≤ y1.n := by rw [hrn.out, ← hnn.out]; exact HK.out.len.1
    have hoff := Lib.hid (HR.out.off2 hn1 (B2.out.below HBa.out B2.out.lt))
    have HR2 : Hid (RAt (wa.alloc (.cells #[.int .i64 gd, .slice A' n c'] 44)) A' y1) := Lib.hid (HR.out.below ((Below.refl _ _).alloc (Nat.le_refl _) _))
    have HBd : Hid (Below wy.heap.size wy (wa.alloc (.cells #[.int .i64 gd, .slice A' n c'] 44))) := Lib.hid (HBa.out.alloc HBa.out.size _)
    have BL : Hid (Blk (wa.alloc (.cells #[.int .i64 gd, .slice A' n c'] 44)) wa.heap.size 44 #[.int .i64 gd, .slice A' n c']) := Lib.hid (Blk.new _ _ _)
    obtain ⟨g3, hg3⟩ : ∃ g3, wa.heap.size = g3 := ⟨_, rfl⟩
    rw [hg3] at BL ⊢
    clear hg3 c0 c1 e0 e1 f0 f1 HOut HO1
    generalize World.alloc wa _ = wd at HBd BL HR2 ⊢
    obtain ⟨-, -, e0, e1, f0, f1, -⟩ := HX.out wd HBd.out
    have l0 : wd.cell? ⟨g3, 0, none⟩ = some (.int .i64 gd) := BL.out.cell 0
    have l1 : wd.cell? ⟨g3, 1, none⟩ = some (.slice A' n c') := BL.out.cell 1
    go_wp2
    (try simp only [Exit.inBlock, Exit.then])
    refine bodyPost_ret (by simp [results, Try.results33, asAddr, go_sem, e0, e1]; rfl) rfl ?_
    have hbz := below_two (below_next hb0.out HBd.out) (by rw [HG.out]; exact Nat.le_succ g1) (.int .i64 gd) (.slice A' n c')
    exact rto rfl hrn.out (HR2.out.two hoff.out _ _) hbz fun hh => absurd hh HH0.out
end Go.Proofs.Ythhjockofihohaa
