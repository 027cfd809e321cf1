/- told: what the reference does for a call. -/
import Derived.Test.YthhjockofihohaaRefT
import Derived.Test.YthhjockofihohaaLedF
import Derived.Deep.RegionHeld3
namespace Go.Proofs.Ythhjockofihohaa
open Go.RowKit
theorem ract_all_n (y : Led) (a : LAct) : (y.ract a).1.n = y.n := by
  have h1 : ∀ i p m, (y.rin i p m).1.n = y.n := fun i p m => by
    unfold Led.rin; (repeat' split) <;> rfl
  have h2 : ∀ i p m, (y.rout i p m).1.n = y.n := fun i p m => by
    unfold Led.rout; (repeat' split) <;> rfl
  have h3 : ∀ i p m, (y.rkeep i p m).1.n = y.n := fun i p m => by
    unfold Led.rkeep; (repeat' split) <;> first | rfl | exact h2 _ _ _
  have h4 : ∀ i s t, (y.mark i s t).1.n = y.n := fun i s t => by
    unfold Led.mark; (repeat' split) <;> rfl
  unfold Led.ract
  split <;> first | exact h1 _ _ _ | exact h2 _ _ _ | exact h3 _ _ _ | exact h4 _ _ _ | exact ract_n _ _ _ _ _
set_option maxHeartbeats 8000000 in
set_option maxRecDepth 100000 in
theorem told_calls (w : World) (A : Option Addr) (y : Led) (h : RAt w A y) (hk : y.ROk) (c : Nat) (a : LAct) (gd : Int) (hgd : Hid (y.goods = gd)) :
    Calls Try.prog 15 #[.agg #[.int .i64 gd, .slice A y.n c], .agg (acells a).toArray] w (RTo w gd (y.ract a)) := by
  have HN1 : Hid (1 ≤ (y.ract a).1.n) := Lib.hid (by rw [ract_all_n]; exact hk.len.1)
  have hkk := arnd_lt a.kind (below := 11) (by omega)
  have HK := Lib.hid (fun w => around11 a.kind w)
  have E := Lib.hid (show y.ract a = match arnd a.kind 11 with | 0 => y.rin a.who 0 a.n | 1 => y.rout a.who 0 a.n | 2 => y.rin a.who (Led.rpart a.good) a.n | 3 => y.rout a.who (Led.rpart a.good) a.n | 4 => y.rkeep a.who 0 a.n | 5 => y.rover a.who a.who 0 a.n | 6 => y.rkeep a.who (Led.rpart a.good) a.n | 7 => y.rover a.who a.who (Led.rpart a.good) a.n | 8 => y.rover a.who a.dst 0 a.n | 9 => y.rover a.who a.dst (Led.rpart a.good) a.n | _ => y.mark a.who a.n a.text from rfl)
  generalize arnd a.kind 11 = k at hkk HK E
  unfold acells
  obtain ⟨kd, who, dst, good, n, text⟩ := a
  simp only at HK E HN1 ⊢
  rcases (show k = 0 ∨ k = 1 ∨ k = 2 ∨ k = 3 ∨ k = 4 ∨ k = 5 ∨ k = 6 ∨ k = 7 ∨ k = 8 ∨ k = 9 ∨ k = 10 by omega) with rfl | rfl | rfl | rfl | rfl | rfl | rfl | rfl | rfl | rfl | rfl
  · simp only at E
    rw [E.out] at HN1 ⊢
    have HM := Lib.hid (fun wx (hb : Below w.heap.size w wx) => in_calls wx A y (h.below hb) hk c who 0 n gd hgd)
    clear h hk hgd E hkk
    generalize y.rin who 0 n = r at HM HN1 ⊢
    generalize y.n = ny at HM ⊢
    go_enter Try.func15, Try.ntmps15
    go_upto_region 1 with (fail)
    have hb0 : Hid (Below w.heap.size w (((w.alloc (.cells #[.int .i64 gd, .slice A ny c] 44)).alloc (.cells #[.int .i64 kd, .int .i64 who, .int .i64 dst, .int .i64 good, .int .i64 n, .string text] 24)).alloc (.cells #[.int .i64 0, .slice none 0 0] 44))) := Lib.hid ((((Below.refl _ _).alloc (Nat.le_refl _) _).alloc (by simp) _).alloc (by simp; omega) _)
    have B1 : Hid (Blk (((w.alloc (.cells #[.int .i64 gd, .slice A ny c] 44)).alloc (.cells #[.int .i64 kd, .int .i64 who, .int .i64 dst, .int .i64 good, .int .i64 n, .string text] 24)).alloc (.cells #[.int .i64 0, .slice none 0 0] 44)) w.heap.size 44 #[.int .i64 gd, .slice A ny c]) := Lib.hid (((Blk.new _ _ _).alloc _).alloc _)
    have B2 : Hid (Blk (((w.alloc (.cells #[.int .i64 gd, .slice A ny c] 44)).alloc (.cells #[.int .i64 kd, .int .i64 who, .int .i64 dst, .int .i64 good, .int .i64 n, .string text] 24)).alloc (.cells #[.int .i64 0, .slice none 0 0] 44)) (w.heap.size + 1) 24 #[.int .i64 kd, .int .i64 who, .int .i64 dst, .int .i64 good, .int .i64 n, .string text]) := Lib.hid (by have := (Blk.new (w.alloc (.cells #[.int .i64 gd, .slice A ny c] 44)) 24 #[.int .i64 kd, .int .i64 who, .int .i64 dst, .int .i64 good, .int .i64 n, .string text]).alloc (.cells #[.int .i64 0, .slice none 0 0] 44); simpa using this)
    have B3 : Hid (Blk (((w.alloc (.cells #[.int .i64 gd, .slice A ny c] 44)).alloc (.cells #[.int .i64 kd, .int .i64 who, .int .i64 dst, .int .i64 good, .int .i64 n, .string text] 24)).alloc (.cells #[.int .i64 0, .slice none 0 0] 44)) (w.heap.size + 2) 44 #[.int .i64 0, .slice none 0 0]) := Lib.hid (by have := Blk.new ((w.alloc (.cells #[.int .i64 gd, .slice A ny c] 44)).alloc (.cells #[.int .i64 kd, .int .i64 who, .int .i64 dst, .int .i64 good, .int .i64 n, .string text] 24)) 44 #[.int .i64 0, .slice none 0 0]; simpa using this)
    obtain ⟨g1, hg1⟩ : ∃ g1, w.heap.size = g1 := ⟨_, rfl⟩
    have HG := Lib.hid hg1
    rw [hg1] at B1 B2 B3 ⊢
    clear hg1
    generalize World.alloc (World.alloc (World.alloc w _) _) _ = wy at hb0 B1 B2 B3 ⊢
    have c0 := B1.out.cell 0
    have c1 := B1.out.cell 1
    have a0 := B2.out.cell 0
    have a1 := B2.out.cell 1
    have a2 := B2.out.cell 2
    have a3 := B2.out.cell 3
    have a4 := B2.out.cell 4
    have a5 := B2.out.cell 5
    simp only [List.getElem?_toArray, List.getElem?_cons_zero, List.getElem?_cons_succ] at c0 c1 a0 a1 a2 a3 a4 a5
    have HO1 := Lib.hid (HM.out _ hb0.out)
    go_wp2_with (first
      | (go_at_call 10; (with_reducible refine (HK.out _).mono ?_); rintro e w1 ⟨rfl, rfl⟩)
      | (go_at_call 30; (refine (HO1.out).mono ?_); rintro e wa ⟨A', c', rfl, hR, hba, hOw⟩; have HBa := Lib.hid hba; have HR := Lib.hid hR; have HOw := Lib.hid hOw; have B4 := Lib.hid (B3.out.below hba B3.out.lt); have e0 := B4.out.cell 0; have e1 := B4.out.cell 1; have f0 := B4.out.frozen 0; have f1 := B4.out.frozen 1; clear hba hR hOw; simp only [List.getElem?_toArray, List.getElem?_cons_zero, List.getElem?_cons_succ] at e0 e1))
    (try simp only [Exit.inBlock, Exit.then])
    refine bodyPost_ret (by simp [results, Try.results15, asAddr, go_sem, e0, e1]; rfl) rfl ?_
    exact rto_fin HR.out HN1.out B4.out (below_next hb0.out HBa.out) (by rw [HG.out]; exact Nat.le_add_right g1 2) HOw.out hb0.out.size _ _
  · simp only at E
    rw [E.out] at HN1 ⊢
    have HM := Lib.hid (fun wx (hb : Below w.heap.size w wx) => out_calls wx A y (h.below hb) hk c who 0 n gd hgd)
    clear h hk hgd E hkk
    generalize y.rout who 0 n = r at HM HN1 ⊢
    generalize y.n = ny at HM ⊢
    go_enter Try.func15, Try.ntmps15
    go_upto_region 1 with (fail)
    have hb0 : Hid (Below w.heap.size w (((w.alloc (.cells #[.int .i64 gd, .slice A ny c] 44)).alloc (.cells #[.int .i64 kd, .int .i64 who, .int .i64 dst, .int .i64 good, .int .i64 n, .string text] 24)).alloc (.cells #[.int .i64 0, .slice none 0 0] 44))) := Lib.hid ((((Below.refl _ _).alloc (Nat.le_refl _) _).alloc (by simp) _).alloc (by simp; omega) _)
    have B1 : Hid (Blk (((w.alloc (.cells #[.int .i64 gd, .slice A ny c] 44)).alloc (.cells #[.int .i64 kd, .int .i64 who, .int .i64 dst, .int .i64 good, .int .i64 n, .string text] 24)).alloc (.cells #[.int .i64 0, .slice none 0 0] 44)) w.heap.size 44 #[.int .i64 gd, .slice A ny c]) := Lib.hid (((Blk.new _ _ _).alloc _).alloc _)
    have B2 : Hid (Blk (((w.alloc (.cells #[.int .i64 gd, .slice A ny c] 44)).alloc (.cells #[.int .i64 kd, .int .i64 who, .int .i64 dst, .int .i64 good, .int .i64 n, .string text] 24)).alloc (.cells #[.int .i64 0, .slice none 0 0] 44)) (w.heap.size + 1) 24 #[.int .i64 kd, .int .i64 who, .int .i64 dst, .int .i64 good, .int .i64 n, .string text]) := Lib.hid (by have := (Blk.new (w.alloc (.cells #[.int .i64 gd, .slice A ny c] 44)) 24 #[.int .i64 kd, .int .i64 who, .int .i64 dst, .int .i64 good, .int .i64 n, .string text]).alloc (.cells #[.int .i64 0, .slice none 0 0] 44); simpa using this)
    have B3 : Hid (Blk (((w.alloc (.cells #[.int .i64 gd, .slice A ny c] 44)).alloc (.cells #[.int .i64 kd, .int .i64 who, .int .i64 dst, .int .i64 good, .int .i64 n, .string text] 24)).alloc (.cells #[.int .i64 0, .slice none 0 0] 44)) (w.heap.size + 2) 44 #[.int .i64 0, .slice none 0 0]) := Lib.hid (by have := Blk.new ((w.alloc (.cells #[.int .i64 gd, .slice A ny c] 44)).alloc (.cells #[.int .i64 kd, .int .i64 who, .int .i64 dst, .int .i64 good, .int .i64 n, .string text] 24)) 44 #[.int .i64 0, .slice none 0 0]; simpa using this)
    obtain ⟨g1, hg1⟩ : ∃ g1, w.heap.size = g1 := ⟨_, rfl⟩
    have HG := Lib.hid hg1
    rw [hg1] at B1 B2 B3 ⊢
    clear hg1
    generalize World.alloc (World.alloc (World.alloc w _) _) _ = wy at hb0 B1 B2 B3 ⊢
    have c0 := B1.out.cell 0
    have c1 := B1.out.cell 1
    have a0 := B2.out.cell 0
    have a1 := B2.out.cell 1
    have a2 := B2.out.cell 2
    have a3 := B2.out.cell 3
    have a4 := B2.out.cell 4
    have a5 := B2.out.cell 5
    simp only [List.getElem?_toArray, List.getElem?_cons_zero, List.getElem?_cons_succ] at c0 c1 a0 a1 a2 a3 a4 a5
    have HO1 := Lib.hid (HM.out _ hb0.out)
    go_wp2_with (first
      | (go_at_call 10; (with_reducible refine (HK.out _).mono ?_); rintro e w1 ⟨rfl, rfl⟩)
      | (go_at_call 31; (refine (HO1.out).mono ?_); rintro e wa ⟨A', c', rfl, hR, hba, hOw⟩; have HBa := Lib.hid hba; have HR := Lib.hid hR; have HOw := Lib.hid hOw; have B4 := Lib.hid (B3.out.below hba B3.out.lt); have e0 := B4.out.cell 0; have e1 := B4.out.cell 1; have f0 := B4.out.frozen 0; have f1 := B4.out.frozen 1; clear hba hR hOw; simp only [List.getElem?_toArray, List.getElem?_cons_zero, List.getElem?_cons_succ] at e0 e1))
    (try simp only [Exit.inBlock, Exit.then])
    refine bodyPost_ret (by simp [results, Try.results15, asAddr, go_sem, e0, e1]; rfl) rfl ?_
    exact rto_fin HR.out HN1.out B4.out (below_next hb0.out HBa.out) (by rw [HG.out]; exact Nat.le_add_right g1 2) HOw.out hb0.out.size _ _
  · simp only at E
    rw [E.out] at HN1 ⊢
    have HM := Lib.hid (fun wx (hb : Below w.heap.size w wx) => in_calls wx A y (h.below hb) hk c who (Led.rpart good) n gd hgd)
    clear h hk hgd E hkk
    generalize y.rin who (Led.rpart good) n = r at HM HN1 ⊢
    generalize y.n = ny at HM ⊢
    have HP := Lib.hid (fun w => part_calls w good)
    generalize Led.rpart good = gp at HM HP
    go_enter Try.func15, Try.ntmps15
    go_upto_region 1 with (fail)
    have hb0 : Hid (Below w.heap.size w (((w.alloc (.cells #[.int .i64 gd, .slice A ny c] 44)).alloc (.cells #[.int .i64 kd, .int .i64 who, .int .i64 dst, .int .i64 good, .int .i64 n, .string text] 24)).alloc (.cells #[.int .i64 0, .slice none 0 0] 44))) := Lib.hid ((((Below.refl _ _).alloc (Nat.le_refl _) _).alloc (by simp) _).alloc (by simp; omega) _)
    have B1 : Hid (Blk (((w.alloc (.cells #[.int .i64 gd, .slice A ny c] 44)).alloc (.cells #[.int .i64 kd, .int .i64 who, .int .i64 dst, .int .i64 good, .int .i64 n, .string text] 24)).alloc (.cells #[.int .i64 0, .slice none 0 0] 44)) w.heap.size 44 #[.int .i64 gd, .slice A ny c]) := Lib.hid (((Blk.new _ _ _).alloc _).alloc _)
    have B2 : Hid (Blk (((w.alloc (.cells #[.int .i64 gd, .slice A ny c] 44)).alloc (.cells #[.int .i64 kd, .int .i64 who, .int .i64 dst, .int .i64 good, .int .i64 n, .string text] 24)).alloc (.cells #[.int .i64 0, .slice none 0 0] 44)) (w.heap.size + 1) 24 #[.int .i64 kd, .int .i64 who, .int .i64 dst, .int .i64 good, .int .i64 n, .string text]) := Lib.hid (by have := (Blk.new (w.alloc (.cells #[.int .i64 gd, .slice A ny c] 44)) 24 #[.int .i64 kd, .int .i64 who, .int .i64 dst, .int .i64 good, .int .i64 n, .string text]).alloc (.cells #[.int .i64 0, .slice none 0 0] 44); simpa using this)
    have B3 : Hid (Blk (((w.alloc (.cells #[.int .i64 gd, .slice A ny c] 44)).alloc (.cells #[.int .i64 kd, .int .i64 who, .int .i64 dst, .int .i64 good, .int .i64 n, .string text] 24)).alloc (.cells #[.int .i64 0, .slice none 0 0] 44)) (w.heap.size + 2) 44 #[.int .i64 0, .slice none 0 0]) := Lib.hid (by have := Blk.new ((w.alloc (.cells #[.int .i64 gd, .slice A ny c] 44)).alloc (.cells #[.int .i64 kd, .int .i64 who, .int .i64 dst, .int .i64 good, .int .i64 n, .string text] 24)) 44 #[.int .i64 0, .slice none 0 0]; simpa using this)
    obtain ⟨g1, hg1⟩ : ∃ g1, w.heap.size = g1 := ⟨_, rfl⟩
    have HG := Lib.hid hg1
    rw [hg1] at B1 B2 B3 ⊢
    clear hg1
    generalize World.alloc (World.alloc (World.alloc w _) _) _ = wy at hb0 B1 B2 B3 ⊢
    have c0 := B1.out.cell 0
    have c1 := B1.out.cell 1
    have a0 := B2.out.cell 0
    have a1 := B2.out.cell 1
    have a2 := B2.out.cell 2
    have a3 := B2.out.cell 3
    have a4 := B2.out.cell 4
    have a5 := B2.out.cell 5
    simp only [List.getElem?_toArray, List.getElem?_cons_zero, List.getElem?_cons_succ] at c0 c1 a0 a1 a2 a3 a4 a5
    go_upto_region 7 with (go_at_call 10; (with_reducible refine (HK.out _).mono ?_); rintro e w1 ⟨rfl, rfl⟩)
    have Hd0 : Hid (Below wy.heap.size wy wy.drew) := Lib.hid (Below.refl _ _).drew
    have HSx : Hid (∀ wx, Below wy.heap.size wy wx → (wx.cell? ⟨g1, 0, none⟩ = some (.int .i64 gd) ∧ wx.cell? ⟨g1, 1, none⟩ = some (.slice A ny c) ∧ wx.cell? ⟨g1 + 1, 1, none⟩ = some (.int .i64 who) ∧ wx.cell? ⟨g1 + 1, 2, none⟩ = some (.int .i64 dst) ∧ wx.cell? ⟨g1 + 1, 3, none⟩ = some (.int .i64 good) ∧ wx.cell? ⟨g1 + 1, 4, none⟩ = some (.int .i64 n))) := Lib.hid fun wx hb => by
      have b1 := B1.out.below hb B1.out.lt
      have b2 := B2.out.below hb B2.out.lt
      exact ⟨b1.cell 0, b1.cell 1, b2.cell 1, b2.cell 2, b2.cell 3, b2.cell 4⟩
    have HSs : Hid (∀ wz (u v : Value), Below wy.heap.size wy wz → ((fun wx : World => (wx.cell? ⟨g1, 0, none⟩ = some (.int .i64 gd) ∧ wx.cell? ⟨g1, 1, none⟩ = some (.slice A ny c) ∧ wx.cell? ⟨g1 + 1, 1, none⟩ = some (.int .i64 who) ∧ wx.cell? ⟨g1 + 1, 2, none⟩ = some (.int .i64 dst) ∧ wx.cell? ⟨g1 + 1, 3, none⟩ = some (.int .i64 good) ∧ wx.cell? ⟨g1 + 1, 4, none⟩ = some (.int .i64 n))) ((wz.setCell ⟨g1 + 2, 0, none⟩ u).setCell ⟨g1 + 2, 1, none⟩ v))) := Lib.hid fun wz u v hb => by
      have b1 := ((B1.out.below hb B1.out.lt).far (show g1 ≠ g1 + 2 by omega) (j := 0) u).far (show g1 ≠ g1 + 2 by omega) (j := 1) v
      have b2 := ((B2.out.below hb B2.out.lt).far (show g1 + 1 ≠ g1 + 2 by omega) (j := 0) u).far (show g1 + 1 ≠ g1 + 2 by omega) (j := 1) v
      exact ⟨b1.cell 0, b1.cell 1, b2.cell 1, b2.cell 2, b2.cell 3, b2.cell 4⟩
    have hbw := Lib.hid (below_next hb0.out Hd0.out)
    have B5 := Lib.hid (B3.out.below Hd0.out B3.out.lt)
    clear c0 c1 a0 a1 a2 a3 a4 a5
    replace B3 := B5
    have HO1 := Lib.hid (HM.out _ hbw.out)
    go_region_held3 (fun wx => wx.cell? ⟨g1, 0, none⟩ = some (.int .i64 gd) ∧ wx.cell? ⟨g1, 1, none⟩ = some (.slice A ny c) ∧ wx.cell? ⟨g1 + 1, 1, none⟩ = some (.int .i64 who) ∧ wx.cell? ⟨g1 + 1, 2, none⟩ = some (.int .i64 dst) ∧ wx.cell? ⟨g1 + 1, 3, none⟩ = some (.int .i64 good) ∧ wx.cell? ⟨g1 + 1, 4, none⟩ = some (.int .i64 n))
      (first | exact HSx.out _ Hd0.out | exact HSx.out _ (below_next Hd0.out HBa.out) | exact HSs.out _ _ _ (below_next Hd0.out HBa.out))
      (first
        | (go_at_call 32; (with_reducible refine (HP.out _).mono ?_); rintro e w1 ⟨rfl, rfl⟩)
        | (go_at_call 30; (refine (HO1.out).mono ?_); rintro e wa ⟨A', c', rfl, hR, hba, hOw⟩; have HBa := Lib.hid hba; have HR := Lib.hid hR; have HOw := Lib.hid hOw; have B4 := Lib.hid (B3.out.below hba B3.out.lt); have e0 := B4.out.cell 0; have e1 := B4.out.cell 1; have f0 := B4.out.frozen 0; have f1 := B4.out.frozen 1; clear hba hR hOw; simp only [List.getElem?_toArray, List.getElem?_cons_zero, List.getElem?_cons_succ] at e0 e1))
    go_wp2
    (try simp only [Exit.inBlock, Exit.then])
    refine bodyPost_ret (by simp [results, Try.results15, asAddr, go_sem, e0, e1]; rfl) rfl ?_
    exact rto_fin HR.out HN1.out B4.out (below_next hbw.out HBa.out) (by rw [HG.out]; exact Nat.le_add_right g1 2) HOw.out hbw.out.size _ _
  · simp only at E
    rw [E.out] at HN1 ⊢
    have HM := Lib.hid (fun wx (hb : Below w.heap.size w wx) => out_calls wx A y (h.below hb) hk c who (Led.rpart good) n gd hgd)
    clear h hk hgd E hkk
    generalize y.rout who (Led.rpart good) n = r at HM HN1 ⊢
    generalize y.n = ny at HM ⊢
    have HP := Lib.hid (fun w => part_calls w good)
    generalize Led.rpart good = gp at HM HP
    go_enter Try.func15, Try.ntmps15
    go_upto_region 1 with (fail)
    have hb0 : Hid (Below w.heap.size w (((w.alloc (.cells #[.int .i64 gd, .slice A ny c] 44)).alloc (.cells #[.int .i64 kd, .int .i64 who, .int .i64 dst, .int .i64 good, .int .i64 n, .string text] 24)).alloc (.cells #[.int .i64 0, .slice none 0 0] 44))) := Lib.hid ((((Below.refl _ _).alloc (Nat.le_refl _) _).alloc (by simp) _).alloc (by simp; omega) _)
    have B1 : Hid (Blk (((w.alloc (.cells #[.int .i64 gd, .slice A ny c] 44)).alloc (.cells #[.int .i64 kd, .int .i64 who, .int .i64 dst, .int .i64 good, .int .i64 n, .string text] 24)).alloc (.cells #[.int .i64 0, .slice none 0 0] 44)) w.heap.size 44 #[.int .i64 gd, .slice A ny c]) := Lib.hid (((Blk.new _ _ _).alloc _).alloc _)
    have B2 : Hid (Blk (((w.alloc (.cells #[.int .i64 gd, .slice A ny c] 44)).alloc (.cells #[.int .i64 kd, .int .i64 who, .int .i64 dst, .int .i64 good, .int .i64 n, .string text] 24)).alloc (.cells #[.int .i64 0, .slice none 0 0] 44)) (w.heap.size + 1) 24 #[.int .i64 kd, .int .i64 who, .int .i64 dst, .int .i64 good, .int .i64 n, .string text]) := Lib.hid (by have := (Blk.new (w.alloc (.cells #[.int .i64 gd, .slice A ny c] 44)) 24 #[.int .i64 kd, .int .i64 who, .int .i64 dst, .int .i64 good, .int .i64 n, .string text]).alloc (.cells #[.int .i64 0, .slice none 0 0] 44); simpa using this)
    have B3 : Hid (Blk (((w.alloc (.cells #[.int .i64 gd, .slice A ny c] 44)).alloc (.cells #[.int .i64 kd, .int .i64 who, .int .i64 dst, .int .i64 good, .int .i64 n, .string text] 24)).alloc (.cells #[.int .i64 0, .slice none 0 0] 44)) (w.heap.size + 2) 44 #[.int .i64 0, .slice none 0 0]) := Lib.hid (by have := Blk.new ((w.alloc (.cells #[.int .i64 gd, .slice A ny c] 44)).alloc (.cells #[.int .i64 kd, .int .i64 who, .int .i64 dst, .int .i64 good, .int .i64 n, .string text] 24)) 44 #[.int .i64 0, .slice none 0 0]; simpa using this)
    obtain ⟨g1, hg1⟩ : ∃ g1, w.heap.size = g1 := ⟨_, rfl⟩
    have HG := Lib.hid hg1
    rw [hg1] at B1 B2 B3 ⊢
    clear hg1
    generalize World.alloc (World.alloc (World.alloc w _) _) _ = wy at hb0 B1 B2 B3 ⊢
    have c0 := B1.out.cell 0
    have c1 := B1.out.cell 1
    have a0 := B2.out.cell 0
    have a1 := B2.out.cell 1
    have a2 := B2.out.cell 2
    have a3 := B2.out.cell 3
    have a4 := B2.out.cell 4
    have a5 := B2.out.cell 5
    simp only [List.getElem?_toArray, List.getElem?_cons_zero, List.getElem?_cons_succ] at c0 c1 a0 a1 a2 a3 a4 a5
    go_upto_region 9 with (go_at_call 10; (with_reducible refine (HK.out _).mono ?_); rintro e w1 ⟨rfl, rfl⟩)
    have Hd0 : Hid (Below wy.heap.size wy wy.drew) := Lib.hid (Below.refl _ _).drew
    have HSx : Hid (∀ wx, Below wy.heap.size wy wx → (wx.cell? ⟨g1, 0, none⟩ = some (.int .i64 gd) ∧ wx.cell? ⟨g1, 1, none⟩ = some (.slice A ny c) ∧ wx.cell? ⟨g1 + 1, 1, none⟩ = some (.int .i64 who) ∧ wx.cell? ⟨g1 + 1, 2, none⟩ = some (.int .i64 dst) ∧ wx.cell? ⟨g1 + 1, 3, none⟩ = some (.int .i64 good) ∧ wx.cell? ⟨g1 + 1, 4, none⟩ = some (.int .i64 n))) := Lib.hid fun wx hb => by
      have b1 := B1.out.below hb B1.out.lt
      have b2 := B2.out.below hb B2.out.lt
      exact ⟨b1.cell 0, b1.cell 1, b2.cell 1, b2.cell 2, b2.cell 3, b2.cell 4⟩
    have HSs : Hid (∀ wz (u v : Value), Below wy.heap.size wy wz → ((fun wx : World => (wx.cell? ⟨g1, 0, none⟩ = some (.int .i64 gd) ∧ wx.cell? ⟨g1, 1, none⟩ = some (.slice A ny c) ∧ wx.cell? ⟨g1 + 1, 1, none⟩ = some (.int .i64 who) ∧ wx.cell? ⟨g1 + 1, 2, none⟩ = some (.int .i64 dst) ∧ wx.cell? ⟨g1 + 1, 3, none⟩ = some (.int .i64 good) ∧ wx.cell? ⟨g1 + 1, 4, none⟩ = some (.int .i64 n))) ((wz.setCell ⟨g1 + 2, 0, none⟩ u).setCell ⟨g1 + 2, 1, none⟩ v))) := Lib.hid fun wz u v hb => by
      have b1 := ((B1.out.below hb B1.out.lt).far (show g1 ≠ g1 + 2 by omega) (j := 0) u).far (show g1 ≠ g1 + 2 by omega) (j := 1) v
      have b2 := ((B2.out.below hb B2.out.lt).far (show g1 + 1 ≠ g1 + 2 by omega) (j := 0) u).far (show g1 + 1 ≠ g1 + 2 by omega) (j := 1) v
      exact ⟨b1.cell 0, b1.cell 1, b2.cell 1, b2.cell 2, b2.cell 3, b2.cell 4⟩
    have hbw := Lib.hid (below_next hb0.out Hd0.out)
    have B5 := Lib.hid (B3.out.below Hd0.out B3.out.lt)
    clear c0 c1 a0 a1 a2 a3 a4 a5
    replace B3 := B5
    have HO1 := Lib.hid (HM.out _ hbw.out)
    go_region_held3 (fun wx => wx.cell? ⟨g1, 0, none⟩ = some (.int .i64 gd) ∧ wx.cell? ⟨g1, 1, none⟩ = some (.slice A ny c) ∧ wx.cell? ⟨g1 + 1, 1, none⟩ = some (.int .i64 who) ∧ wx.cell? ⟨g1 + 1, 2, none⟩ = some (.int .i64 dst) ∧ wx.cell? ⟨g1 + 1, 3, none⟩ = some (.int .i64 good) ∧ wx.cell? ⟨g1 + 1, 4, none⟩ = some (.int .i64 n))
      (first | exact HSx.out _ Hd0.out | exact HSx.out _ (below_next Hd0.out HBa.out) | exact HSs.out _ _ _ (below_next Hd0.out HBa.out))
      (first
        | (go_at_call 32; (with_reducible refine (HP.out _).mono ?_); rintro e w1 ⟨rfl, rfl⟩)
        | (go_at_call 31; (refine (HO1.out).mono ?_); rintro e wa ⟨A', c', rfl, hR, hba, hOw⟩; have HBa := Lib.hid hba; have HR := Lib.hid hR; have HOw := Lib.hid hOw; have B4 := Lib.hid (B3.out.below hba B3.out.lt); have e0 := B4.out.cell 0; have e1 := B4.out.cell 1; have f0 := B4.out.frozen 0; have f1 := B4.out.frozen 1; clear hba hR hOw; simp only [List.getElem?_toArray, List.getElem?_cons_zero, List.getElem?_cons_succ] at e0 e1))
    go_wp2
    (try simp only [Exit.inBlock, Exit.then])
    refine bodyPost_ret (by simp [results, Try.results15, asAddr, go_sem, e0, e1]; rfl) rfl ?_
    exact rto_fin HR.out HN1.out B4.out (below_next hbw.out HBa.out) (by rw [HG.out]; exact Nat.le_add_right g1 2) HOw.out hbw.out.size _ _
  · simp only at E
    rw [E.out] at HN1 ⊢
    have HM := Lib.hid (fun wx (hb : Below w.heap.size w wx) => keep_calls wx A y (h.below hb) hk c who 0 n gd hgd)
    clear h hk hgd E hkk
    generalize y.rkeep who 0 n = r at HM HN1 ⊢
    generalize y.n = ny at HM ⊢
    go_enter Try.func15, Try.ntmps15
    go_upto_region 1 with (fail)
    have hb0 : Hid (Below w.heap.size w (((w.alloc (.cells #[.int .i64 gd, .slice A ny c] 44)).alloc (.cells #[.int .i64 kd, .int .i64 who, .int .i64 dst, .int .i64 good, .int .i64 n, .string text] 24)).alloc (.cells #[.int .i64 0, .slice none 0 0] 44))) := Lib.hid ((((Below.refl _ _).alloc (Nat.le_refl _) _).alloc (by simp) _).alloc (by simp; omega) _)
    have B1 : Hid (Blk (((w.alloc (.cells #[.int .i64 gd, .slice A ny c] 44)).alloc (.cells #[.int .i64 kd, .int .i64 who, .int .i64 dst, .int .i64 good, .int .i64 n, .string text] 24)).alloc (.cells #[.int .i64 0, .slice none 0 0] 44)) w.heap.size 44 #[.int .i64 gd, .slice A ny c]) := Lib.hid (((Blk.new _ _ _).alloc _).alloc _)
    have B2 : Hid (Blk (((w.alloc (.cells #[.int .i64 gd, .slice A ny c] 44)).alloc (.cells #[.int .i64 kd, .int .i64 who, .int .i64 dst, .int .i64 good, .int .i64 n, .string text] 24)).alloc (.cells #[.int .i64 0, .slice none 0 0] 44)) (w.heap.size + 1) 24 #[.int .i64 kd, .int .i64 who, .int .i64 dst, .int .i64 good, .int .i64 n, .string text]) := Lib.hid (by have := (Blk.new (w.alloc (.cells #[.int .i64 gd, .slice A ny c] 44)) 24 #[.int .i64 kd, .int .i64 who, .int .i64 dst, .int .i64 good, .int .i64 n, .string text]).alloc (.cells #[.int .i64 0, .slice none 0 0] 44); simpa using this)
    have B3 : Hid (Blk (((w.alloc (.cells #[.int .i64 gd, .slice A ny c] 44)).alloc (.cells #[.int .i64 kd, .int .i64 who, .int .i64 dst, .int .i64 good, .int .i64 n, .string text] 24)).alloc (.cells #[.int .i64 0, .slice none 0 0] 44)) (w.heap.size + 2) 44 #[.int .i64 0, .slice none 0 0]) := Lib.hid (by have := Blk.new ((w.alloc (.cells #[.int .i64 gd, .slice A ny c] 44)).alloc (.cells #[.int .i64 kd, .int .i64 who, .int .i64 dst, .int .i64 good, .int .i64 n, .string text] 24)) 44 #[.int .i64 0, .slice none 0 0]; simpa using this)
    obtain ⟨g1, hg1⟩ : ∃ g1, w.heap.size = g1 := ⟨_, rfl⟩
    have HG := Lib.hid hg1
    rw [hg1] at B1 B2 B3 ⊢
    clear hg1
    generalize World.alloc (World.alloc (World.alloc w _) _) _ = wy at hb0 B1 B2 B3 ⊢
    have c0 := B1.out.cell 0
    have c1 := B1.out.cell 1
    have a0 := B2.out.cell 0
    have a1 := B2.out.cell 1
    have a2 := B2.out.cell 2
    have a3 := B2.out.cell 3
    have a4 := B2.out.cell 4
    have a5 := B2.out.cell 5
    simp only [List.getElem?_toArray, List.getElem?_cons_zero, List.getElem?_cons_succ] at c0 c1 a0 a1 a2 a3 a4 a5
    have HO1 := Lib.hid (HM.out _ hb0.out)
    go_wp2_with (first
      | (go_at_call 10; (with_reducible refine (HK.out _).mono ?_); rintro e w1 ⟨rfl, rfl⟩)
      | (go_at_call 33; (refine (HO1.out).mono ?_); rintro e wa ⟨A', c', rfl, hR, hba, hOw⟩; have HBa := Lib.hid hba; have HR := Lib.hid hR; have HOw := Lib.hid hOw; have B4 := Lib.hid (B3.out.below hba B3.out.lt); have e0 := B4.out.cell 0; have e1 := B4.out.cell 1; have f0 := B4.out.frozen 0; have f1 := B4.out.frozen 1; clear hba hR hOw; simp only [List.getElem?_toArray, List.getElem?_cons_zero, List.getElem?_cons_succ] at e0 e1))
    (try simp only [Exit.inBlock, Exit.then])
    refine bodyPost_ret (by simp [results, Try.results15, asAddr, go_sem, e0, e1]; rfl) rfl ?_
    exact rto_fin HR.out HN1.out B4.out (below_next hb0.out HBa.out) (by rw [HG.out]; exact Nat.le_add_right g1 2) HOw.out hb0.out.size _ _
  · simp only at E
    rw [E.out] at HN1 ⊢
    have HM := Lib.hid (fun wx (hb : Below w.heap.size w wx) => loose_calls wx A y (h.below hb) hk c who 0 n gd hgd)
    clear h hk hgd E hkk
    generalize y.rover who who 0 n = r at HM HN1 ⊢
    generalize y.n = ny at HM ⊢
    go_enter Try.func15, Try.ntmps15
    go_upto_region 1 with (fail)
    have hb0 : Hid (Below w.heap.size w (((w.alloc (.cells #[.int .i64 gd, .slice A ny c] 44)).alloc (.cells #[.int .i64 kd, .int .i64 who, .int .i64 dst, .int .i64 good, .int .i64 n, .string text] 24)).alloc (.cells #[.int .i64 0, .slice none 0 0] 44))) := Lib.hid ((((Below.refl _ _).alloc (Nat.le_refl _) _).alloc (by simp) _).alloc (by simp; omega) _)
    have B1 : Hid (Blk (((w.alloc (.cells #[.int .i64 gd, .slice A ny c] 44)).alloc (.cells #[.int .i64 kd, .int .i64 who, .int .i64 dst, .int .i64 good, .int .i64 n, .string text] 24)).alloc (.cells #[.int .i64 0, .slice none 0 0] 44)) w.heap.size 44 #[.int .i64 gd, .slice A ny c]) := Lib.hid (((Blk.new _ _ _).alloc _).alloc _)
    have B2 : Hid (Blk (((w.alloc (.cells #[.int .i64 gd, .slice A ny c] 44)).alloc (.cells #[.int .i64 kd, .int .i64 who, .int .i64 dst, .int .i64 good, .int .i64 n, .string text] 24)).alloc (.cells #[.int .i64 0, .slice none 0 0] 44)) (w.heap.size + 1) 24 #[.int .i64 kd, .int .i64 who, .int .i64 dst, .int .i64 good, .int .i64 n, .string text]) := Lib.hid (by have := (Blk.new (w.alloc (.cells #[.int .i64 gd, .slice A ny c] 44)) 24 #[.int .i64 kd, .int .i64 who, .int .i64 dst, .int .i64 good, .int .i64 n, .string text]).alloc (.cells #[.int .i64 0, .slice none 0 0] 44); simpa using this)
    have B3 : Hid (Blk (((w.alloc (.cells #[.int .i64 gd, .slice A ny c] 44)).alloc (.cells #[.int .i64 kd, .int .i64 who, .int .i64 dst, .int .i64 good, .int .i64 n, .string text] 24)).alloc (.cells #[.int .i64 0, .slice none 0 0] 44)) (w.heap.size + 2) 44 #[.int .i64 0, .slice none 0 0]) := Lib.hid (by have := Blk.new ((w.alloc (.cells #[.int .i64 gd, .slice A ny c] 44)).alloc (.cells #[.int .i64 kd, .int .i64 who, .int .i64 dst, .int .i64 good, .int .i64 n, .string text] 24)) 44 #[.int .i64 0, .slice none 0 0]; simpa using this)
    obtain ⟨g1, hg1⟩ : ∃ g1, w.heap.size = g1 := ⟨_, rfl⟩
    have HG := Lib.hid hg1
    rw [hg1] at B1 B2 B3 ⊢
    clear hg1
    generalize World.alloc (World.alloc (World.alloc w _) _) _ = wy at hb0 B1 B2 B3 ⊢
    have c0 := B1.out.cell 0
    have c1 := B1.out.cell 1
    have a0 := B2.out.cell 0
    have a1 := B2.out.cell 1
    have a2 := B2.out.cell 2
    have a3 := B2.out.cell 3
    have a4 := B2.out.cell 4
    have a5 := B2.out.cell 5
    simp only [List.getElem?_toArray, List.getElem?_cons_zero, List.getElem?_cons_succ] at c0 c1 a0 a1 a2 a3 a4 a5
    have HO1 := Lib.hid (HM.out _ hb0.out)
    go_wp2_with (first
      | (go_at_call 10; (with_reducible refine (HK.out _).mono ?_); rintro e w1 ⟨rfl, rfl⟩)
      | (go_at_call 34; (refine (HO1.out).mono ?_); rintro e wa ⟨A', c', rfl, hR, hba, hOw⟩; have HBa := Lib.hid hba; have HR := Lib.hid hR; have HOw := Lib.hid hOw; have B4 := Lib.hid (B3.out.below hba B3.out.lt); have e0 := B4.out.cell 0; have e1 := B4.out.cell 1; have f0 := B4.out.frozen 0; have f1 := B4.out.frozen 1; clear hba hR hOw; simp only [List.getElem?_toArray, List.getElem?_cons_zero, List.getElem?_cons_succ] at e0 e1))
    (try simp only [Exit.inBlock, Exit.then])
    refine bodyPost_ret (by simp [results, Try.results15, asAddr, go_sem, e0, e1]; rfl) rfl ?_
    exact rto_fin HR.out HN1.out B4.out (below_next hb0.out HBa.out) (by rw [HG.out]; exact Nat.le_add_right g1 2) HOw.out hb0.out.size _ _
  · simp only at E
    rw [E.out] at HN1 ⊢
    have HM := Lib.hid (fun wx (hb : Below w.heap.size w wx) => keep_calls wx A y (h.below hb) hk c who (Led.rpart good) n gd hgd)
    clear h hk hgd E hkk
    generalize y.rkeep who (Led.rpart good) n = r at HM HN1 ⊢
    generalize y.n = ny at HM ⊢
    have HP := Lib.hid (fun w => part_calls w good)
    generalize Led.rpart good = gp at HM HP
    go_enter Try.func15, Try.ntmps15
    go_upto_region 1 with (fail)
    have hb0 : Hid (Below w.heap.size w (((w.alloc (.cells #[.int .i64 gd, .slice A ny c] 44)).alloc (.cells #[.int .i64 kd, .int .i64 who, .int .i64 dst, .int .i64 good, .int .i64 n, .string text] 24)).alloc (.cells #[.int .i64 0, .slice none 0 0] 44))) := Lib.hid ((((Below.refl _ _).alloc (Nat.le_refl _) _).alloc (by simp) _).alloc (by simp; omega) _)
    have B1 : Hid (Blk (((w.alloc (.cells #[.int .i64 gd, .slice A ny c] 44)).alloc (.cells #[.int .i64 kd, .int .i64 who, .int .i64 dst, .int .i64 good, .int .i64 n, .string text] 24)).alloc (.cells #[.int .i64 0, .slice none 0 0] 44)) w.heap.size 44 #[.int .i64 gd, .slice A ny c]) := Lib.hid (((Blk.new _ _ _).alloc _).alloc _)
    have B2 : Hid (Blk (((w.alloc (.cells #[.int .i64 gd, .slice A ny c] 44)).alloc (.cells #[.int .i64 kd, .int .i64 who, .int .i64 dst, .int .i64 good, .int .i64 n, .string text] 24)).alloc (.cells #[.int .i64 0, .slice none 0 0] 44)) (w.heap.size + 1) 24 #[.int .i64 kd, .int .i64 who, .int .i64 dst, .int .i64 good, .int .i64 n, .string text]) := Lib.hid (by have := (Blk.new (w.alloc (.cells #[.int .i64 gd, .slice A ny c] 44)) 24 #[.int .i64 kd, .int .i64 who, .int .i64 dst, .int .i64 good, .int .i64 n, .string text]).alloc (.cells #[.int .i64 0, .slice none 0 0] 44); simpa using this)
    have B3 : Hid (Blk (((w.alloc (.cells #[.int .i64 gd, .slice A ny c] 44)).alloc (.cells #[.int .i64 kd, .int .i64 who, .int .i64 dst, .int .i64 good, .int .i64 n, .string text] 24)).alloc (.cells #[.int .i64 0, .slice none 0 0] 44)) (w.heap.size + 2) 44 #[.int .i64 0, .slice none 0 0]) := Lib.hid (by have := Blk.new ((w.alloc (.cells #[.int .i64 gd, .slice A ny c] 44)).alloc (.cells #[.int .i64 kd, .int .i64 who, .int .i64 dst, .int .i64 good, .int .i64 n, .string text] 24)) 44 #[.int .i64 0, .slice none 0 0]; simpa using this)
    obtain ⟨g1, hg1⟩ : ∃ g1, w.heap.size = g1 := ⟨_, rfl⟩
    have HG := Lib.hid hg1
    rw [hg1] at B1 B2 B3 ⊢
    clear hg1
    generalize World.alloc (World.alloc (World.alloc w _) _) _ = wy at hb0 B1 B2 B3 ⊢
    have c0 := B1.out.cell 0
    have c1 := B1.out.cell 1
    have a0 := B2.out.cell 0
    have a1 := B2.out.cell 1
    have a2 := B2.out.cell 2
    have a3 := B2.out.cell 3
    have a4 := B2.out.cell 4
    have a5 := B2.out.cell 5
    simp only [List.getElem?_toArray, List.getElem?_cons_zero, List.getElem?_cons_succ] at c0 c1 a0 a1 a2 a3 a4 a5
    go_upto_region 15 with (go_at_call 10; (with_reducible refine (HK.out _).mono ?_); rintro e w1 ⟨rfl, rfl⟩)
    have Hd0 : Hid (Below wy.heap.size wy wy.drew) := Lib.hid (Below.refl _ _).drew
    have HSx : Hid (∀ wx, Below wy.heap.size wy wx → (wx.cell? ⟨g1, 0, none⟩ = some (.int .i64 gd) ∧ wx.cell? ⟨g1, 1, none⟩ = some (.slice A ny c) ∧ wx.cell? ⟨g1 + 1, 1, none⟩ = some (.int .i64 who) ∧ wx.cell? ⟨g1 + 1, 2, none⟩ = some (.int .i64 dst) ∧ wx.cell? ⟨g1 + 1, 3, none⟩ = some (.int .i64 good) ∧ wx.cell? ⟨g1 + 1, 4, none⟩ = some (.int .i64 n))) := Lib.hid fun wx hb => by
      have b1 := B1.out.below hb B1.out.lt
      have b2 := B2.out.below hb B2.out.lt
      exact ⟨b1.cell 0, b1.cell 1, b2.cell 1, b2.cell 2, b2.cell 3, b2.cell 4⟩
    have HSs : Hid (∀ wz (u v : Value), Below wy.heap.size wy wz → ((fun wx : World => (wx.cell? ⟨g1, 0, none⟩ = some (.int .i64 gd) ∧ wx.cell? ⟨g1, 1, none⟩ = some (.slice A ny c) ∧ wx.cell? ⟨g1 + 1, 1, none⟩ = some (.int .i64 who) ∧ wx.cell? ⟨g1 + 1, 2, none⟩ = some (.int .i64 dst) ∧ wx.cell? ⟨g1 + 1, 3, none⟩ = some (.int .i64 good) ∧ wx.cell? ⟨g1 + 1, 4, none⟩ = some (.int .i64 n))) ((wz.setCell ⟨g1 + 2, 0, none⟩ u).setCell ⟨g1 + 2, 1, none⟩ v))) := Lib.hid fun wz u v hb => by
      have b1 := ((B1.out.below hb B1.out.lt).far (show g1 ≠ g1 + 2 by omega) (j := 0) u).far (show g1 ≠ g1 + 2 by omega) (j := 1) v
      have b2 := ((B2.out.below hb B2.out.lt).far (show g1 + 1 ≠ g1 + 2 by omega) (j := 0) u).far (show g1 + 1 ≠ g1 + 2 by omega) (j := 1) v
      exact ⟨b1.cell 0, b1.cell 1, b2.cell 1, b2.cell 2, b2.cell 3, b2.cell 4⟩
    have hbw := Lib.hid (below_next hb0.out Hd0.out)
    have B5 := Lib.hid (B3.out.below Hd0.out B3.out.lt)
    clear c0 c1 a0 a1 a2 a3 a4 a5
    replace B3 := B5
    have HO1 := Lib.hid (HM.out _ hbw.out)
    go_region_held3 (fun wx => wx.cell? ⟨g1, 0, none⟩ = some (.int .i64 gd) ∧ wx.cell? ⟨g1, 1, none⟩ = some (.slice A ny c) ∧ wx.cell? ⟨g1 + 1, 1, none⟩ = some (.int .i64 who) ∧ wx.cell? ⟨g1 + 1, 2, none⟩ = some (.int .i64 dst) ∧ wx.cell? ⟨g1 + 1, 3, none⟩ = some (.int .i64 good) ∧ wx.cell? ⟨g1 + 1, 4, none⟩ = some (.int .i64 n))
      (first | exact HSx.out _ Hd0.out | exact HSx.out _ (below_next Hd0.out HBa.out) | exact HSs.out _ _ _ (below_next Hd0.out HBa.out))
      (first
        | (go_at_call 32; (with_reducible refine (HP.out _).mono ?_); rintro e w1 ⟨rfl, rfl⟩)
        | (go_at_call 33; (refine (HO1.out).mono ?_); rintro e wa ⟨A', c', rfl, hR, hba, hOw⟩; have HBa := Lib.hid hba; have HR := Lib.hid hR; have HOw := Lib.hid hOw; have B4 := Lib.hid (B3.out.below hba B3.out.lt); have e0 := B4.out.cell 0; have e1 := B4.out.cell 1; have f0 := B4.out.frozen 0; have f1 := B4.out.frozen 1; clear hba hR hOw; simp only [List.getElem?_toArray, List.getElem?_cons_zero, List.getElem?_cons_succ] at e0 e1))
    go_wp2
    (try simp only [Exit.inBlock, Exit.then])
    refine bodyPost_ret (by simp [results, Try.results15, asAddr, go_sem, e0, e1]; rfl) rfl ?_
    exact rto_fin HR.out HN1.out B4.out (below_next hbw.out HBa.out) (by rw [HG.out]; exact Nat.le_add_right g1 2) HOw.out hbw.out.size _ _
  · simp only at E
    rw [E.out] at HN1 ⊢
    have HM := Lib.hid (fun wx (hb : Below w.heap.size w wx) => loose_calls wx A y (h.below hb) hk c who (Led.rpart good) n gd hgd)
    clear h hk hgd E hkk
    generalize y.rover who who (Led.rpart good) n = r at HM HN1 ⊢
    generalize y.n = ny at HM ⊢
    have HP := Lib.hid (fun w => part_calls w good)
    generalize Led.rpart good = gp at HM HP
    go_enter Try.func15, Try.ntmps15
    go_upto_region 1 with (fail)
    have hb0 : Hid (Below w.heap.size w (((w.alloc (.cells #[.int .i64 gd, .slice A ny c] 44)).alloc (.cells #[.int .i64 kd, .int .i64 who, .int .i64 dst, .int .i64 good, .int .i64 n, .string text] 24)).alloc (.cells #[.int .i64 0, .slice none 0 0] 44))) := Lib.hid ((((Below.refl _ _).alloc (Nat.le_refl _) _).alloc (by simp) _).alloc (by simp; omega) _)
    have B1 : Hid (Blk (((w.alloc (.cells #[.int .i64 gd, .slice A ny c] 44)).alloc (.cells #[.int .i64 kd, .int .i64 who, .int .i64 dst, .int .i64 good, .int .i64 n, .string text] 24)).alloc (.cells #[.int .i64 0, .slice none 0 0] 44)) w.heap.size 44 #[.int .i64 gd, .slice A ny c]) := Lib.hid (((Blk.new _ _ _).alloc _).alloc _)
    have B2 : Hid (Blk (((w.alloc (.cells #[.int .i64 gd, .slice A ny c] 44)).alloc (.cells #[.int .i64 kd, .int .i64 who, .int .i64 dst, .int .i64 good, .int .i64 n, .string text] 24)).alloc (.cells #[.int .i64 0, .slice none 0 0] 44)) (w.heap.size + 1) 24 #[.int .i64 kd, .int .i64 who, .int .i64 dst, .int .i64 good, .int .i64 n, .string text]) := Lib.hid (by have := (Blk.new (w.alloc (.cells #[.int .i64 gd, .slice A ny c] 44)) 24 #[.int .i64 kd, .int .i64 who, .int .i64 dst, .int .i64 good, .int .i64 n, .string text]).alloc (.cells #[.int .i64 0, .slice none 0 0] 44); simpa using this)
    have B3 : Hid (Blk (((w.alloc (.cells #[.int .i64 gd, .slice A ny c] 44)).alloc (.cells #[.int .i64 kd, .int .i64 who, .int .i64 dst, .int .i64 good, .int .i64 n, .string text] 24)).alloc (.cells #[.int .i64 0, .slice none 0 0] 44)) (w.heap.size + 2) 44 #[.int .i64 0, .slice none 0 0]) := Lib.hid (by have := Blk.new ((w.alloc (.cells #[.int .i64 gd, .slice A ny c] 44)).alloc (.cells #[.int .i64 kd, .int .i64 who, .int .i64 dst, .int .i64 good, .int .i64 n, .string text] 24)) 44 #[.int .i64 0, .slice none 0 0]; simpa using this)
    obtain ⟨g1, hg1⟩ : ∃ g1, w.heap.size = g1 := ⟨_, rfl⟩
    have HG := Lib.hid hg1
    rw [hg1] at B1 B2 B3 ⊢
    clear hg1
    generalize World.alloc (World.alloc (World.alloc w _) _) _ = wy at hb0 B1 B2 B3 ⊢
    have c0 := B1.out.cell 0
    have c1 := B1.out.cell 1
    have a0 := B2.out.cell 0
    have a1 := B2.out.cell 1
    have a2 := B2.out.cell 2
    have a3 := B2.out.cell 3
    have a4 := B2.out.cell 4
    have a5 := B2.out.cell 5
    simp only [List.getElem?_toArray, List.getElem?_cons_zero, List.getElem?_cons_succ] at c0 c1 a0 a1 a2 a3 a4 a5
    go_upto_region 17 with (go_at_call 10; (with_reducible refine (HK.out _).mono ?_); rintro e w1 ⟨rfl, rfl⟩)
    have Hd0 : Hid (Below wy.heap.size wy wy.drew) := Lib.hid (Below.refl _ _).drew
    have HSx : Hid (∀ wx, Below wy.heap.size wy wx → (wx.cell? ⟨g1, 0, none⟩ = some (.int .i64 gd) ∧ wx.cell? ⟨g1, 1, none⟩ = some (.slice A ny c) ∧ wx.cell? ⟨g1 + 1, 1, none⟩ = some (.int .i64 who) ∧ wx.cell? ⟨g1 + 1, 2, none⟩ = some (.int .i64 dst) ∧ wx.cell? ⟨g1 + 1, 3, none⟩ = some (.int .i64 good) ∧ wx.cell? ⟨g1 + 1, 4, none⟩ = some (.int .i64 n))) := Lib.hid fun wx hb => by
      have b1 := B1.out.below hb B1.out.lt
      have b2 := B2.out.below hb B2.out.lt
      exact ⟨b1.cell 0, b1.cell 1, b2.cell 1, b2.cell 2, b2.cell 3, b2.cell 4⟩
    have HSs : Hid (∀ wz (u v : Value), Below wy.heap.size wy wz → ((fun wx : World => (wx.cell? ⟨g1, 0, none⟩ = some (.int .i64 gd) ∧ wx.cell? ⟨g1, 1, none⟩ = some (.slice A ny c) ∧ wx.cell? ⟨g1 + 1, 1, none⟩ = some (.int .i64 who) ∧ wx.cell? ⟨g1 + 1, 2, none⟩ = some (.int .i64 dst) ∧ wx.cell? ⟨g1 + 1, 3, none⟩ = some (.int .i64 good) ∧ wx.cell? ⟨g1 + 1, 4, none⟩ = some (.int .i64 n))) ((wz.setCell ⟨g1 + 2, 0, none⟩ u).setCell ⟨g1 + 2, 1, none⟩ v))) := Lib.hid fun wz u v hb => by
      have b1 := ((B1.out.below hb B1.out.lt).far (show g1 ≠ g1 + 2 by omega) (j := 0) u).far (show g1 ≠ g1 + 2 by omega) (j := 1) v
      have b2 := ((B2.out.below hb B2.out.lt).far (show g1 + 1 ≠ g1 + 2 by omega) (j := 0) u).far (show g1 + 1 ≠ g1 + 2 by omega) (j := 1) v
      exact ⟨b1.cell 0, b1.cell 1, b2.cell 1, b2.cell 2, b2.cell 3, b2.cell 4⟩
    have hbw := Lib.hid (below_next hb0.out Hd0.out)
    have B5 := Lib.hid (B3.out.below Hd0.out B3.out.lt)
    clear c0 c1 a0 a1 a2 a3 a4 a5
    replace B3 := B5
    have HO1 := Lib.hid (HM.out _ hbw.out)
    go_region_held3 (fun wx => wx.cell? ⟨g1, 0, none⟩ = some (.int .i64 gd) ∧ wx.cell? ⟨g1, 1, none⟩ = some (.slice A ny c) ∧ wx.cell? ⟨g1 + 1, 1, none⟩ = some (.int .i64 who) ∧ wx.cell? ⟨g1 + 1, 2, none⟩ = some (.int .i64 dst) ∧ wx.cell? ⟨g1 + 1, 3, none⟩ = some (.int .i64 good) ∧ wx.cell? ⟨g1 + 1, 4, none⟩ = some (.int .i64 n))
      (first | exact HSx.out _ Hd0.out | exact HSx.out _ (below_next Hd0.out HBa.out) | exact HSs.out _ _ _ (below_next Hd0.out HBa.out))
      (first
        | (go_at_call 32; (with_reducible refine (HP.out _).mono ?_); rintro e w1 ⟨rfl, rfl⟩)
        | (go_at_call 34; (refine (HO1.out).mono ?_); rintro e wa ⟨A', c', rfl, hR, hba, hOw⟩; have HBa := Lib.hid hba; have HR := Lib.hid hR; have HOw := Lib.hid hOw; have B4 := Lib.hid (B3.out.below hba B3.out.lt); have e0 := B4.out.cell 0; have e1 := B4.out.cell 1; have f0 := B4.out.frozen 0; have f1 := B4.out.frozen 1; clear hba hR hOw; simp only [List.getElem?_toArray, List.getElem?_cons_zero, List.getElem?_cons_succ] at e0 e1))
    go_wp2
    (try simp only [Exit.inBlock, Exit.then])
    refine bodyPost_ret (by simp [results, Try.results15, asAddr, go_sem, e0, e1]; rfl) rfl ?_
    exact rto_fin HR.out HN1.out B4.out (below_next hbw.out HBa.out) (by rw [HG.out]; exact Nat.le_add_right g1 2) HOw.out hbw.out.size _ _
  · simp only at E
    rw [E.out] at HN1 ⊢
    have HM := Lib.hid (fun wx (hb : Below w.heap.size w wx) => over_calls wx A y (h.below hb) hk c who dst 0 n gd hgd)
    clear h hk hgd E hkk
    generalize y.rover who dst 0 n = r at HM HN1 ⊢
    generalize y.n = ny at HM ⊢
    go_enter Try.func15, Try.ntmps15
    go_upto_region 1 with (fail)
    have hb0 : Hid (Below w.heap.size w (((w.alloc (.cells #[.int .i64 gd, .slice A ny c] 44)).alloc (.cells #[.int .i64 kd, .int .i64 who, .int .i64 dst, .int .i64 good, .int .i64 n, .string text] 24)).alloc (.cells #[.int .i64 0, .slice none 0 0] 44))) := Lib.hid ((((Below.refl _ _).alloc (Nat.le_refl _) _).alloc (by simp) _).alloc (by simp; omega) _)
    have B1 : Hid (Blk (((w.alloc (.cells #[.int .i64 gd, .slice A ny c] 44)).alloc (.cells #[.int .i64 kd, .int .i64 who, .int .i64 dst, .int .i64 good, .int .i64 n, .string text] 24)).alloc (.cells #[.int .i64 0, .slice none 0 0] 44)) w.heap.size 44 #[.int .i64 gd, .slice A ny c]) := Lib.hid (((Blk.new _ _ _).alloc _).alloc _)
    have B2 : Hid (Blk (((w.alloc (.cells #[.int .i64 gd, .slice A ny c] 44)).alloc (.cells #[.int .i64 kd, .int .i64 who, .int .i64 dst, .int .i64 good, .int .i64 n, .string text] 24)).alloc (.cells #[.int .i64 0, .slice none 0 0] 44)) (w.heap.size + 1) 24 #[.int .i64 kd, .int .i64 who, .int .i64 dst, .int .i64 good, .int .i64 n, .string text]) := Lib.hid (by have := (Blk.new (w.alloc (.cells #[.int .i64 gd, .slice A ny c] 44)) 24 #[.int .i64 kd, .int .i64 who, .int .i64 dst, .int .i64 good, .int .i64 n, .string text]).alloc (.cells #[.int .i64 0, .slice none 0 0] 44); simpa using this)
    have B3 : Hid (Blk (((w.alloc (.cells #[.int .i64 gd, .slice A ny c] 44)).alloc (.cells #[.int .i64 kd, .int .i64 who, .int .i64 dst, .int .i64 good, .int .i64 n, .string text] 24)).alloc (.cells #[.int .i64 0, .slice none 0 0] 44)) (w.heap.size + 2) 44 #[.int .i64 0, .slice none 0 0]) := Lib.hid (by have := Blk.new ((w.alloc (.cells #[.int .i64 gd, .slice A ny c] 44)).alloc (.cells #[.int .i64 kd, .int .i64 who, .int .i64 dst, .int .i64 good, .int .i64 n, .string text] 24)) 44 #[.int .i64 0, .slice none 0 0]; simpa using this)
    obtain ⟨g1, hg1⟩ : ∃ g1, w.heap.size = g1 := ⟨_, rfl⟩
    have HG := Lib.hid hg1
    rw [hg1] at B1 B2 B3 ⊢
    clear hg1
    generalize World.alloc (World.alloc (World.alloc w _) _) _ = wy at hb0 B1 B2 B3 ⊢
    have c0 := B1.out.cell 0
    have c1 := B1.out.cell 1
    have a0 := B2.out.cell 0
    have a1 := B2.out.cell 1
    have a2 := B2.out.cell 2
    have a3 := B2.out.cell 3
    have a4 := B2.out.cell 4
    have a5 := B2.out.cell 5
    simp only [List.getElem?_toArray, List.getElem?_cons_zero, List.getElem?_cons_succ] at c0 c1 a0 a1 a2 a3 a4 a5
    have HO1 := Lib.hid (HM.out _ hb0.out)
    go_wp2_with (first
      | (go_at_call 10; (with_reducible refine (HK.out _).mono ?_); rintro e w1 ⟨rfl, rfl⟩)
      | (go_at_call 35; (refine (HO1.out).mono ?_); rintro e wa ⟨A', c', rfl, hR, hba, hOw⟩; have HBa := Lib.hid hba; have HR := Lib.hid hR; have HOw := Lib.hid hOw; have B4 := Lib.hid (B3.out.below hba B3.out.lt); have e0 := B4.out.cell 0; have e1 := B4.out.cell 1; have f0 := B4.out.frozen 0; have f1 := B4.out.frozen 1; clear hba hR hOw; simp only [List.getElem?_toArray, List.getElem?_cons_zero, List.getElem?_cons_succ] at e0 e1))
    (try simp only [Exit.inBlock, Exit.then])
    refine bodyPost_ret (by simp [results, Try.results15, asAddr, go_sem, e0, e1]; rfl) rfl ?_
    exact rto_fin HR.out HN1.out B4.out (below_next hb0.out HBa.out) (by rw [HG.out]; exact Nat.le_add_right g1 2) HOw.out hb0.out.size _ _
  · simp only at E
    rw [E.out] at HN1 ⊢
    have HM := Lib.hid (fun wx (hb : Below w.heap.size w wx) => over_calls wx A y (h.below hb) hk c who dst (Led.rpart good) n gd hgd)
    clear h hk hgd E hkk
    generalize y.rover who dst (Led.rpart good) n = r at HM HN1 ⊢
    generalize y.n = ny at HM ⊢
    have HP := Lib.hid (fun w => part_calls w good)
    generalize Led.rpart good = gp at HM HP
    go_enter Try.func15, Try.ntmps15
    go_upto_region 1 with (fail)
    have hb0 : Hid (Below w.heap.size w (((w.alloc (.cells #[.int .i64 gd, .slice A ny c] 44)).alloc (.cells #[.int .i64 kd, .int .i64 who, .int .i64 dst, .int .i64 good, .int .i64 n, .string text] 24)).alloc (.cells #[.int .i64 0, .slice none 0 0] 44))) := Lib.hid ((((Below.refl _ _).alloc (Nat.le_refl _) _).alloc (by simp) _).alloc (by simp; omega) _)
    have B1 : Hid (Blk (((w.alloc (.cells #[.int .i64 gd, .slice A ny c] 44)).alloc (.cells #[.int .i64 kd, .int .i64 who, .int .i64 dst, .int .i64 good, .int .i64 n, .string text] 24)).alloc (.cells #[.int .i64 0, .slice none 0 0] 44)) w.heap.size 44 #[.int .i64 gd, .slice A ny c]) := Lib.hid (((Blk.new _ _ _).alloc _).alloc _)
    have B2 : Hid (Blk (((w.alloc (.cells #[.int .i64 gd, .slice A ny c] 44)).alloc (.cells #[.int .i64 kd, .int .i64 who, .int .i64 dst, .int .i64 good, .int .i64 n, .string text] 24)).alloc (.cells #[.int .i64 0, .slice none 0 0] 44)) (w.heap.size + 1) 24 #[.int .i64 kd, .int .i64 who, .int .i64 dst, .int .i64 good, .int .i64 n, .string text]) := Lib.hid (by have := (Blk.new (w.alloc (.cells #[.int .i64 gd, .slice A ny c] 44)) 24 #[.int .i64 kd, .int .i64 who, .int .i64 dst, .int .i64 good, .int .i64 n, .string text]).alloc (.cells #[.int .i64 0, .slice none 0 0] 44); simpa using this)
    have B3 : Hid (Blk (((w.alloc (.cells #[.int .i64 gd, .slice A ny c] 44)).alloc (.cells #[.int .i64 kd, .int .i64 who, .int .i64 dst, .int .i64 good, .int .i64 n, .string text] 24)).alloc (.cells #[.int .i64 0, .slice none 0 0] 44)) (w.heap.size + 2) 44 #[.int .i64 0, .slice none 0 0]) := Lib.hid (by have := Blk.new ((w.alloc (.cells #[.int .i64 gd, .slice A ny c] 44)).alloc (.cells #[.int .i64 kd, .int .i64 who, .int .i64 dst, .int .i64 good, .int .i64 n, .string text] 24)) 44 #[.int .i64 0, .slice none 0 0]; simpa using this)
    obtain ⟨g1, hg1⟩ : ∃ g1, w.heap.size = g1 := ⟨_, rfl⟩
    have HG := Lib.hid hg1
    rw [hg1] at B1 B2 B3 ⊢
    clear hg1
    generalize World.alloc (World.alloc (World.alloc w _) _) _ = wy at hb0 B1 B2 B3 ⊢
    have c0 := B1.out.cell 0
    have c1 := B1.out.cell 1
    have a0 := B2.out.cell 0
    have a1 := B2.out.cell 1
    have a2 := B2.out.cell 2
    have a3 := B2.out.cell 3
    have a4 := B2.out.cell 4
    have a5 := B2.out.cell 5
    simp only [List.getElem?_toArray, List.getElem?_cons_zero, List.getElem?_cons_succ] at c0 c1 a0 a1 a2 a3 a4 a5
    go_upto_region 21 with (go_at_call 10; (with_reducible refine (HK.out _).mono ?_); rintro e w1 ⟨rfl, rfl⟩)
    have Hd0 : Hid (Below wy.heap.size wy wy.drew) := Lib.hid (Below.refl _ _).drew
    have HSx : Hid (∀ wx, Below wy.heap.size wy wx → (wx.cell? ⟨g1, 0, none⟩ = some (.int .i64 gd) ∧ wx.cell? ⟨g1, 1, none⟩ = some (.slice A ny c) ∧ wx.cell? ⟨g1 + 1, 1, none⟩ = some (.int .i64 who) ∧ wx.cell? ⟨g1 + 1, 2, none⟩ = some (.int .i64 dst) ∧ wx.cell? ⟨g1 + 1, 3, none⟩ = some (.int .i64 good) ∧ wx.cell? ⟨g1 + 1, 4, none⟩ = some (.int .i64 n))) := Lib.hid fun wx hb => by
      have b1 := B1.out.below hb B1.out.lt
      have b2 := B2.out.below hb B2.out.lt
      exact ⟨b1.cell 0, b1.cell 1, b2.cell 1, b2.cell 2, b2.cell 3, b2.cell 4⟩
    have HSs : Hid (∀ wz (u v : Value), Below wy.heap.size wy wz → ((fun wx : World => (wx.cell? ⟨g1, 0, none⟩ = some (.int .i64 gd) ∧ wx.cell? ⟨g1, 1, none⟩ = some (.slice A ny c) ∧ wx.cell? ⟨g1 + 1, 1, none⟩ = some (.int .i64 who) ∧ wx.cell? ⟨g1 + 1, 2, none⟩ = some (.int .i64 dst) ∧ wx.cell? ⟨g1 + 1, 3, none⟩ = some (.int .i64 good) ∧ wx.cell? ⟨g1 + 1, 4, none⟩ = some (.int .i64 n))) ((wz.setCell ⟨g1 + 2, 0, none⟩ u).setCell ⟨g1 + 2, 1, none⟩ v))) := Lib.hid fun wz u v hb => by
      have b1 := ((B1.out.below hb B1.out.lt).far (show g1 ≠ g1 + 2 by omega) (j := 0) u).far (show g1 ≠ g1 + 2 by omega) (j := 1) v
      have b2 := ((B2.out.below hb B2.out.lt).far (show g1 + 1 ≠ g1 + 2 by omega) (j := 0) u).far (show g1 + 1 ≠ g1 + 2 by omega) (j := 1) v
      exact ⟨b1.cell 0, b1.cell 1, b2.cell 1, b2.cell 2, b2.cell 3, b2.cell 4⟩
    have hbw := Lib.hid (below_next hb0.out Hd0.out)
    have B5 := Lib.hid (B3.out.below Hd0.out B3.out.lt)
    clear c0 c1 a0 a1 a2 a3 a4 a5
    replace B3 := B5
    have HO1 := Lib.hid (HM.out _ hbw.out)
    go_region_held3 (fun wx => wx.cell? ⟨g1, 0, none⟩ = some (.int .i64 gd) ∧ wx.cell? ⟨g1, 1, none⟩ = some (.slice A ny c) ∧ wx.cell? ⟨g1 + 1, 1, none⟩ = some (.int .i64 who) ∧ wx.cell? ⟨g1 + 1, 2, none⟩ = some (.int .i64 dst) ∧ wx.cell? ⟨g1 + 1, 3, none⟩ = some (.int .i64 good) ∧ wx.cell? ⟨g1 + 1, 4, none⟩ = some (.int .i64 n))
      (first | exact HSx.out _ Hd0.out | exact HSx.out _ (below_next Hd0.out HBa.out) | exact HSs.out _ _ _ (below_next Hd0.out HBa.out))
      (first
        | (go_at_call 32; (with_reducible refine (HP.out _).mono ?_); rintro e w1 ⟨rfl, rfl⟩)
        | (go_at_call 35; (refine (HO1.out).mono ?_); rintro e wa ⟨A', c', rfl, hR, hba, hOw⟩; have HBa := Lib.hid hba; have HR := Lib.hid hR; have HOw := Lib.hid hOw; have B4 := Lib.hid (B3.out.below hba B3.out.lt); have e0 := B4.out.cell 0; have e1 := B4.out.cell 1; have f0 := B4.out.frozen 0; have f1 := B4.out.frozen 1; clear hba hR hOw; simp only [List.getElem?_toArray, List.getElem?_cons_zero, List.getElem?_cons_succ] at e0 e1))
    go_wp2
    (try simp only [Exit.inBlock, Exit.then])
    refine bodyPost_ret (by simp [results, Try.results15, asAddr, go_sem, e0, e1]; rfl) rfl ?_
    exact rto_fin HR.out HN1.out B4.out (below_next hbw.out HBa.out) (by rw [HG.out]; exact Nat.le_add_right g1 2) HOw.out hbw.out.size _ _
  · simp only at E
    rw [E.out] at HN1 ⊢
    have HM := Lib.hid (fun wx (hb : Below w.heap.size w wx) => rmark_calls wx A y (h.below hb) hk c who n text gd)
    clear h hk hgd E hkk
    generalize y.mark who n text = r at HM HN1 ⊢
    generalize y.n = ny at HM ⊢
    go_enter Try.func15, Try.ntmps15
    go_upto_region 1 with (fail)
    have hb0 : Hid (Below w.heap.size w (((w.alloc (.cells #[.int .i64 gd, .slice A ny c] 44)).alloc (.cells #[.int .i64 kd, .int .i64 who, .int .i64 dst, .int .i64 good, .int .i64 n, .string text] 24)).alloc (.cells #[.int .i64 0, .slice none 0 0] 44))) := Lib.hid ((((Below.refl _ _).alloc (Nat.le_refl _) _).alloc (by simp) _).alloc (by simp; omega) _)
    have B1 : Hid (Blk (((w.alloc (.cells #[.int .i64 gd, .slice A ny c] 44)).alloc (.cells #[.int .i64 kd, .int .i64 who, .int .i64 dst, .int .i64 good, .int .i64 n, .string text] 24)).alloc (.cells #[.int .i64 0, .slice none 0 0] 44)) w.heap.size 44 #[.int .i64 gd, .slice A ny c]) := Lib.hid (((Blk.new _ _ _).alloc _).alloc _)
    have B2 : Hid (Blk (((w.alloc (.cells #[.int .i64 gd, .slice A ny c] 44)).alloc (.cells #[.int .i64 kd, .int .i64 who, .int .i64 dst, .int .i64 good, .int .i64 n, .string text] 24)).alloc (.cells #[.int .i64 0, .slice none 0 0] 44)) (w.heap.size + 1) 24 #[.int .i64 kd, .int .i64 who, .int .i64 dst, .int .i64 good, .int .i64 n, .string text]) := Lib.hid (by have := (Blk.new (w.alloc (.cells #[.int .i64 gd, .slice A ny c] 44)) 24 #[.int .i64 kd, .int .i64 who, .int .i64 dst, .int .i64 good, .int .i64 n, .string text]).alloc (.cells #[.int .i64 0, .slice none 0 0] 44); simpa using this)
    have B3 : Hid (Blk (((w.alloc (.cells #[.int .i64 gd, .slice A ny c] 44)).alloc (.cells #[.int .i64 kd, .int .i64 who, .int .i64 dst, .int .i64 good, .int .i64 n, .string text] 24)).alloc (.cells #[.int .i64 0, .slice none 0 0] 44)) (w.heap.size + 2) 44 #[.int .i64 0, .slice none 0 0]) := Lib.hid (by have := Blk.new ((w.alloc (.cells #[.int .i64 gd, .slice A ny c] 44)).alloc (.cells #[.int .i64 kd, .int .i64 who, .int .i64 dst, .int .i64 good, .int .i64 n, .string text] 24)) 44 #[.int .i64 0, .slice none 0 0]; simpa using this)
    obtain ⟨g1, hg1⟩ : ∃ g1, w.heap.size = g1 := ⟨_, rfl⟩
    have HG := Lib.hid hg1
    rw [hg1] at B1 B2 B3 ⊢
    clear hg1
    generalize World.alloc (World.alloc (World.alloc w _) _) _ = wy at hb0 B1 B2 B3 ⊢
    have c0 := B1.out.cell 0
    have c1 := B1.out.cell 1
    have a0 := B2.out.cell 0
    have a1 := B2.out.cell 1
    have a2 := B2.out.cell 2
    have a3 := B2.out.cell 3
    have a4 := B2.out.cell 4
    have a5 := B2.out.cell 5
    simp only [List.getElem?_toArray, List.getElem?_cons_zero, List.getElem?_cons_succ] at c0 c1 a0 a1 a2 a3 a4 a5
    have HO1 := Lib.hid (HM.out _ hb0.out)
    go_wp2_with (first
      | (go_at_call 10; (with_reducible refine (HK.out _).mono ?_); rintro e w1 ⟨rfl, rfl⟩)
      | (go_at_call 36; (refine (HO1.out).mono ?_); rintro e wa ⟨A', c', rfl, hR, hba, hOw⟩; have HBa := Lib.hid hba; have HR := Lib.hid hR; have HOw := Lib.hid hOw; have B4 := Lib.hid (B3.out.below hba B3.out.lt); have e0 := B4.out.cell 0; have e1 := B4.out.cell 1; have f0 := B4.out.frozen 0; have f1 := B4.out.frozen 1; clear hba hR hOw; simp only [List.getElem?_toArray, List.getElem?_cons_zero, List.getElem?_cons_succ] at e0 e1))
    (try simp only [Exit.inBlock, Exit.then])
    refine bodyPost_ret (by simp [results, Try.results15, asAddr, go_sem, e0, e1]; rfl) rfl ?_
    exact rto_fin HR.out HN1.out B4.out (below_next hb0.out HBa.out) (by rw [HG.out]; exact Nat.le_add_right g1 2) HOw.out hb0.out.size _ _
end Go.Proofs.Ythhjockofihohaa
