/- The reference's Loose and Mark; part. -/
import Derived.Test.YthhjockofihohaaRefO
namespace Go.Proofs.Ythhjockofihohaa
open Go.RowKit
theorem RAt.off_ {w : World} {A : Option Addr} {y : Led} (h : RAt w A y) {g : Nat} (hg : ∀ b o, A = some ⟨b, o, none⟩ → b ≠ g) (u v : Value) : RAt ((w.setCell ⟨g, 0, none⟩ u).setCell ⟨g, 1, none⟩ v) A y := by
  obtain ⟨b, o, h1, h2, h3⟩ := h
  have e : ((w.setCell ⟨g, 0, none⟩ u).setCell ⟨g, 1, none⟩ v).heap[b]? = w.heap[b]? := (heap_setCell_other _ ⟨g, 1, none⟩ b _ (hg b o h1)).trans (heap_setCell_other _ ⟨g, 0, none⟩ b _ (hg b o h1))
  exact ⟨b, o, h1, by simpa using h2, fun j hj => by rw [World.cell?_of_block (a := ⟨b, o + j, none⟩) e]; exact h3 j hj⟩
theorem ROwn.off_ {w0 w : World} {b o c g : Nat} {y : Led} (h : ROwn w0 w b o c y) (hg : b ≠ g) (u v : Value) : ROwn w0 ((w.setCell ⟨g, 0, none⟩ u).setCell ⟨g, 1, none⟩ v) b o c y :=
  h.carry (by simp) ((heap_setCell_other _ ⟨g, 1, none⟩ b _ hg).trans (heap_setCell_other _ ⟨g, 0, none⟩ b _ hg))
/-- What a call gave is handed on. -/
theorem rto_fin {w0 w1 W : World} {g : Nat} {gd : Int} {r : Led × Int} {A' : Option Addr} {c' : Nat} {T : TypeId} {u v : Value} (hR : RAt W A' r.1) (hn : 1 ≤ r.1.n) (hB : Blk W g T #[u, v]) (hb : Below w0.heap.size w0 W) (hg : w0.heap.size ≤ g)
    (hO : r.2 = 0 → ∃ b o, A' = some ⟨b, o, none⟩ ∧ ROwn w1 W b o c' r.1) (hw : w0.heap.size ≤ w1.heap.size) (x z : Value) : RTo w0 gd r (.returned (.tuple #[.agg #[.int .i64 gd, .slice A' r.1.n c'], .int .i64 r.2])) ((W.setCell ⟨g, 0, none⟩ x).setCell ⟨g, 1, none⟩ z) := by
  have hoff := hR.off2 hn hB
  refine ⟨A', c', rfl, hR.off_ hoff x z, (hb.setCell hg _).setCell hg _, fun h0 => ?_⟩
  obtain ⟨b, o, e, h⟩ := hO h0
  exact ⟨b, o, e, (h.weak hw).off_ (hoff b o e) x z⟩
theorem ract_n (y : Led) (src dst part m : Int) : (y.rover src dst part m).1.n = y.n := by
  unfold Led.rover
  split
  · rfl
  · split
    · rfl
    · split <;> rfl
theorem loose_calls (w : World) (A : Option Addr) (y : Led) (h : RAt w A y) (hk : y.ROk) (c : Nat) (who part m : Int) (gd : Int) (hgd : Hid (y.goods = gd)) :
    Calls Try.prog 34 #[.agg #[.int .i64 gd, .slice A y.n c], .int .i64 who, .int .i64 part, .int .i64 m] w (RTo w gd (y.rover who who part m)) := by
  have HOv := Lib.hid (fun wx (hb : Below w.heap.size w wx) => over_calls wx A y (h.below hb) hk c who who part m gd hgd)
  have HN1 : Hid (1 ≤ (y.rover who who part m).1.n) := Lib.hid (by rw [ract_n]; exact hk.len.1)
  clear h hk hgd
  generalize y.rover who who part m = r at HOv HN1 ⊢
  generalize y.n = n at HOv ⊢
  go_enter Try.func34, Try.ntmps34
  go_upto_region 1 with (fail)
  have hb0 : Hid (Below w.heap.size w ((w.alloc (.cells #[.int .i64 gd, .slice A n c] 44)).alloc (.cells #[.int .i64 0, .slice none 0 0] 44))) := Lib.hid (((Below.refl _ _).alloc (Nat.le_refl _) _).alloc (by simp) _)
  have B1 : Hid (Blk ((w.alloc (.cells #[.int .i64 gd, .slice A n c] 44)).alloc (.cells #[.int .i64 0, .slice none 0 0] 44)) w.heap.size 44 #[.int .i64 gd, .slice A n c]) := Lib.hid ((Blk.new _ _ _).alloc _)
  have B2 : Hid (Blk ((w.alloc (.cells #[.int .i64 gd, .slice A n c] 44)).alloc (.cells #[.int .i64 0, .slice none 0 0] 44)) (w.heap.size + 1) 44 #[.int .i64 0, .slice none 0 0]) := Lib.hid (by have := Blk.new (w.alloc (.cells #[.int .i64 gd, .slice A n c] 44)) 44 #[.int .i64 0, .slice none 0 0]; simpa using this)
  obtain ⟨g1, hg1⟩ : ∃ g1, w.heap.size = g1 := ⟨_, rfl⟩
  have HG := Lib.hid hg1
  rw [hg1] at B1 B2 ⊢
  clear hg1
  generalize World.alloc (World.alloc w _) _ = wy at hb0 B1 B2 ⊢
  have HX : Hid (∀ wx, Below wy.heap.size wy wx → wx.cell? ⟨g1, 0, none⟩ = some (.int .i64 gd) ∧ wx.cell? ⟨g1, 1, none⟩ = some (.slice A n c) ∧ wx.cell? ⟨g1 + 1, 0, none⟩ = some (.int .i64 0) ∧ wx.cell? ⟨g1 + 1, 1, none⟩ = some (.slice none 0 0) ∧ wx.frozen? ⟨g1 + 1, 0, none⟩ = false ∧ wx.frozen? ⟨g1 + 1, 1, none⟩ = false ∧ g1 + 1 < wx.heap.size) := Lib.hid fun wx hb => by
    have b1 := B1.out.below hb B1.out.lt
    have b2 := B2.out.below hb B2.out.lt
    exact ⟨b1.cell 0, b1.cell 1, b2.cell 0, b2.cell 1, b2.frozen 0, b2.frozen 1, b2.lt⟩
  obtain ⟨c0, c1, e0, e1, f0, f1, -⟩ := HX.out wy (Below.refl _ _)
  have HO1 := Lib.hid (HOv.out _ hb0.out)
  go_wp2_with (first
    | (go_at_call 35; (refine (HO1.out).mono ?_); rintro e wa ⟨A', c', rfl, hR, hba, hOw⟩; have HBa := Lib.hid hba; have HR := Lib.hid hR; have HOw := Lib.hid hOw; have B3 := Lib.hid (B2.out.below hba B2.out.lt); have e0 := B3.out.cell 0; have e1 := B3.out.cell 1; have f0 := B3.out.frozen 0; have f1 := B3.out.frozen 1; clear hba hR hOw; simp only [List.getElem?_toArray, List.getElem?_cons_zero, List.getElem?_cons_succ] at e0 e1))
  (try simp only [Exit.inBlock, Exit.then])
  refine bodyPost_ret (by simp [results, Try.results34, asAddr, go_sem, e0, e1]; rfl) rfl ?_
  exact rto_fin HR.out HN1.out B3.out (below_next hb0.out HBa.out) (by rw [HG.out]; exact Nat.le_succ g1) HOw.out hb0.out.size _ _
theorem part_calls (w : World) (good : Int) : Calls Try.prog 32 #[.int .i64 good] w fun e w' => e = .returned (.int .i64 (Led.rpart good)) ∧ w = w' := by
  have E : Hid (Led.rpart good = if good < 0 ∨ 3 < good then -1 else good + 1) := Lib.hid rfl
  by_cases a : good < 0
  · have E2 : Hid (Led.rpart good = -1) := Lib.hid (by rw [E.out, if_pos (.inl a)])
    rw [E2.out]
    go_enter Try.func32, Try.ntmps32
    go_wp2
    go_ret
    exact ⟨rfl, rfl⟩
  · by_cases b : 3 < good
    · have E2 : Hid (Led.rpart good = -1) := Lib.hid (by rw [E.out, if_pos (.inr b)])
      rw [E2.out]
      go_enter Try.func32, Try.ntmps32
      go_wp2
      go_ret
      exact ⟨rfl, rfl⟩
    · have E2 : Hid (Led.rpart good = good + 1) := Lib.hid (by rw [E.out, if_neg (by omega)])
      rw [E2.out]
      go_enter Try.func32, Try.ntmps32
      go_wp2
      go_ret
      exact ⟨rfl, rfl⟩
set_option maxHeartbeats 4000000 in
theorem rmark_calls (w : World) (A : Option Addr) (y : Led) (h : RAt w A y) (hk : y.ROk) (c : Nat) (who s : Int) (t : ByteArray) (gd : Int) :
    Calls Try.prog 36 #[.agg #[.int .i64 gd, .slice A y.n c], .int .i64 who, .int .i64 s, .string t] w (RTo w gd (y.mark who s t)) := by
  obtain ⟨b0, o0, rfl, hbl0, hnum0⟩ := h.num
  have HBL := Lib.hid hbl0
  have HN0 := Lib.hid hnum0
  clear hbl0 hnum0
  have H := Lib.hid h
  have HCp := Lib.hid (fun wx (hb : Below w.heap.size w wx) => copy_calls (H.out.below hb) hk.len c gd)
  have HK := Lib.hid hk
  have hE : Hid (y.mark who s t = if who < 0 ∨ y.n ≤ who then (y, 60) else if s < 1 ∨ 1099511627776 < s ∨ 256 < t.size then (y, 1) else if s ≤ y.z who.toNat 10 then (y, 91) else ({ y.upd who.toNat 10 s with r := fun i => if i = who.toNat then t else y.r i }, 0)) := Lib.hid rfl
  obtain ⟨n, hnn⟩ : ∃ n, Hid (y.n = n) := ⟨_, Lib.hid rfl⟩
  have hn := hk.len
  rw [hnn.out] at HCp hE hn ⊢
  clear h hk
  by_cases a1 : who < 0
  · have E : Hid (y.mark who s t = (y, 60)) := Lib.hid (by rw [hE.out, if_pos (.inl a1)])
    clear hE
    go_enter Try.func36, Try.ntmps36
    go_upto_region 1 with (fail)
    have hb0 : Hid (Below w.heap.size w ((w.alloc (.cells #[.int .i64 gd, .slice (some ⟨b0, o0, none⟩) n c] 44)).alloc (.cells #[.int .i64 0, .slice none 0 0] 44))) := Lib.hid (((Below.refl _ _).alloc (Nat.le_refl _) _).alloc (by simp) _)
    have B1 : Hid (Blk ((w.alloc (.cells #[.int .i64 gd, .slice (some ⟨b0, o0, none⟩) n c] 44)).alloc (.cells #[.int .i64 0, .slice none 0 0] 44)) w.heap.size 44 #[.int .i64 gd, .slice (some ⟨b0, o0, none⟩) n c]) := Lib.hid ((Blk.new _ _ _).alloc _)
    have B2 : Hid (Blk ((w.alloc (.cells #[.int .i64 gd, .slice (some ⟨b0, o0, none⟩) n c] 44)).alloc (.cells #[.int .i64 0, .slice none 0 0] 44)) (w.heap.size + 1) 44 #[.int .i64 0, .slice none 0 0]) := Lib.hid (by have := Blk.new (w.alloc (.cells #[.int .i64 gd, .slice (some ⟨b0, o0, none⟩) n c] 44)) 44 #[.int .i64 0, .slice none 0 0]; simpa using this)
    obtain ⟨g1, hg1⟩ : ∃ g1, w.heap.size = g1 := ⟨_, rfl⟩
    have HG := Lib.hid hg1
    rw [hg1] at B1 B2 ⊢
    clear hg1
    generalize World.alloc (World.alloc w _) _ = wy at hb0 B1 B2 ⊢
    have HX : Hid (∀ wx, Below wy.heap.size wy wx → wx.cell? ⟨g1, 0, none⟩ = some (.int .i64 gd) ∧ wx.cell? ⟨g1, 1, none⟩ = some (.slice (some ⟨b0, o0, none⟩) n c) ∧ wx.cell? ⟨g1 + 1, 0, none⟩ = some (.int .i64 0) ∧ wx.cell? ⟨g1 + 1, 1, none⟩ = some (.slice none 0 0) ∧ wx.frozen? ⟨g1 + 1, 0, none⟩ = false ∧ wx.frozen? ⟨g1 + 1, 1, none⟩ = false ∧ g1 + 1 < wx.heap.size) := Lib.hid fun wx hb => by
      have b1 := B1.out.below hb B1.out.lt
      have b2 := B2.out.below hb B2.out.lt
      exact ⟨b1.cell 0, b1.cell 1, b2.cell 0, b2.cell 1, b2.frozen 0, b2.frozen 1, b2.lt⟩
    obtain ⟨c0, c1, e0, e1, f0, f1, -⟩ := HX.out wy (Below.refl _ _)
    go_wp2
    (try simp only [Exit.inBlock, Exit.then])
    refine bodyPost_ret (by simp [results, Try.results36, asAddr, go_sem, e0, e1]; rfl) rfl ?_
    have hbz := below_two (below_next hb0.out (Below.refl _ _)) (by rw [HG.out]; exact Nat.le_succ g1) (.int .i64 gd) (.slice (some ⟨b0, o0, none⟩) n c)
    exact rto E.out hnn.out (H.out.below hbz) hbz fun hh => absurd hh (by decide)
  · by_cases a2 : (n : Int) ≤ who
    · have E : Hid (y.mark who s t = (y, 60)) := Lib.hid (by rw [hE.out, if_pos (.inr a2)])
      have a1B : decide (who < 0) = false := by simpa using a1
      clear hE
      go_enter Try.func36, Try.ntmps36
      go_upto_region 1 with (fail)
      have hb0 : Hid (Below w.heap.size w ((w.alloc (.cells #[.int .i64 gd, .slice (some ⟨b0, o0, none⟩) n c] 44)).alloc (.cells #[.int .i64 0, .slice none 0 0] 44))) := Lib.hid (((Below.refl _ _).alloc (Nat.le_refl _) _).alloc (by simp) _)
      have B1 : Hid (Blk ((w.alloc (.cells #[.int .i64 gd, .slice (some ⟨b0, o0, none⟩) n c] 44)).alloc (.cells #[.int .i64 0, .slice none 0 0] 44)) w.heap.size 44 #[.int .i64 gd, .slice (some ⟨b0, o0, none⟩) n c]) := Lib.hid ((Blk.new _ _ _).alloc _)
      have B2 : Hid (Blk ((w.alloc (.cells #[.int .i64 gd, .slice (some ⟨b0, o0, none⟩) n c] 44)).alloc (.cells #[.int .i64 0, .slice none 0 0] 44)) (w.heap.size + 1) 44 #[.int .i64 0, .slice none 0 0]) := Lib.hid (by have := Blk.new (w.alloc (.cells #[.int .i64 gd, .slice (some ⟨b0, o0, none⟩) n c] 44)) 44 #[.int .i64 0, .slice none 0 0]; simpa using this)
      obtain ⟨g1, hg1⟩ : ∃ g1, w.heap.size = g1 := ⟨_, rfl⟩
      have HG := Lib.hid hg1
      rw [hg1] at B1 B2 ⊢
      clear hg1
      generalize World.alloc (World.alloc w _) _ = wy at hb0 B1 B2 ⊢
      have HX : Hid (∀ wx, Below wy.heap.size wy wx → wx.cell? ⟨g1, 0, none⟩ = some (.int .i64 gd) ∧ wx.cell? ⟨g1, 1, none⟩ = some (.slice (some ⟨b0, o0, none⟩) n c) ∧ wx.cell? ⟨g1 + 1, 0, none⟩ = some (.int .i64 0) ∧ wx.cell? ⟨g1 + 1, 1, none⟩ = some (.slice none 0 0) ∧ wx.frozen? ⟨g1 + 1, 0, none⟩ = false ∧ wx.frozen? ⟨g1 + 1, 1, none⟩ = false ∧ g1 + 1 < wx.heap.size) := Lib.hid fun wx hb => by
        have b1 := B1.out.below hb B1.out.lt
        have b2 := B2.out.below hb B2.out.lt
        exact ⟨b1.cell 0, b1.cell 1, b2.cell 0, b2.cell 1, b2.frozen 0, b2.frozen 1, b2.lt⟩
      obtain ⟨c0, c1, e0, e1, f0, f1, -⟩ := HX.out wy (Below.refl _ _)
      go_wp2
      (try simp only [Exit.inBlock, Exit.then])
      refine bodyPost_ret (by simp [results, Try.results36, asAddr, go_sem, e0, e1]; rfl) rfl ?_
      have hbz := below_two (below_next hb0.out (Below.refl _ _)) (by rw [HG.out]; exact Nat.le_succ g1) (.int .i64 gd) (.slice (some ⟨b0, o0, none⟩) n c)
      exact rto E.out hnn.out (H.out.below hbz) hbz fun hh => absurd hh (by decide)
    · have a1B : decide (who < 0) = false := by simpa using a1
      have a2B : decide ((n : Int) ≤ who) = false := by simpa using a2
      have hE1 : Hid (y.mark who s t = if s < 1 ∨ 1099511627776 < s ∨ 256 < t.size then (y, 1) else if s ≤ y.z who.toNat 10 then (y, 91) else ({ y.upd who.toNat 10 s with r := fun i => if i = who.toNat then t else y.r i }, 0)) := Lib.hid (by rw [hE.out, if_neg (by omega)])
      clear hE
      by_cases q1 : s < 1
      · have E : Hid (y.mark who s t = (y, 1)) := Lib.hid (by rw [hE1.out, if_pos (.inl q1)])
        clear hE1
        go_enter Try.func36, Try.ntmps36
        go_upto_region 1 with (fail)
        have hb0 : Hid (Below w.heap.size w ((w.alloc (.cells #[.int .i64 gd, .slice (some ⟨b0, o0, none⟩) n c] 44)).alloc (.cells #[.int .i64 0, .slice none 0 0] 44))) := Lib.hid (((Below.refl _ _).alloc (Nat.le_refl _) _).alloc (by simp) _)
        have B1 : Hid (Blk ((w.alloc (.cells #[.int .i64 gd, .slice (some ⟨b0, o0, none⟩) n c] 44)).alloc (.cells #[.int .i64 0, .slice none 0 0] 44)) w.heap.size 44 #[.int .i64 gd, .slice (some ⟨b0, o0, none⟩) n c]) := Lib.hid ((Blk.new _ _ _).alloc _)
        have B2 : Hid (Blk ((w.alloc (.cells #[.int .i64 gd, .slice (some ⟨b0, o0, none⟩) n c] 44)).alloc (.cells #[.int .i64 0, .slice none 0 0] 44)) (w.heap.size + 1) 44 #[.int .i64 0, .slice none 0 0]) := Lib.hid (by have := Blk.new (w.alloc (.cells #[.int .i64 gd, .slice (some ⟨b0, o0, none⟩) n c] 44)) 44 #[.int .i64 0, .slice none 0 0]; simpa using this)
        obtain ⟨g1, hg1⟩ : ∃ g1, w.heap.size = g1 := ⟨_, rfl⟩
        have HG := Lib.hid hg1
        rw [hg1] at B1 B2 ⊢
        clear hg1
        generalize World.alloc (World.alloc w _) _ = wy at hb0 B1 B2 ⊢
        have HX : Hid (∀ wx, Below wy.heap.size wy wx → wx.cell? ⟨g1, 0, none⟩ = some (.int .i64 gd) ∧ wx.cell? ⟨g1, 1, none⟩ = some (.slice (some ⟨b0, o0, none⟩) n c) ∧ wx.cell? ⟨g1 + 1, 0, none⟩ = some (.int .i64 0) ∧ wx.cell? ⟨g1 + 1, 1, none⟩ = some (.slice none 0 0) ∧ wx.frozen? ⟨g1 + 1, 0, none⟩ = false ∧ wx.frozen? ⟨g1 + 1, 1, none⟩ = false ∧ g1 + 1 < wx.heap.size) := Lib.hid fun wx hb => by
          have b1 := B1.out.below hb B1.out.lt
          have b2 := B2.out.below hb B2.out.lt
          exact ⟨b1.cell 0, b1.cell 1, b2.cell 0, b2.cell 1, b2.frozen 0, b2.frozen 1, b2.lt⟩
        obtain ⟨c0, c1, e0, e1, f0, f1, -⟩ := HX.out wy (Below.refl _ _)
        go_wp2
        (try simp only [Exit.inBlock, Exit.then])
        refine bodyPost_ret (by simp [results, Try.results36, asAddr, go_sem, e0, e1]; rfl) rfl ?_
        have hbz := below_two (below_next hb0.out (Below.refl _ _)) (by rw [HG.out]; exact Nat.le_succ g1) (.int .i64 gd) (.slice (some ⟨b0, o0, none⟩) n c)
        exact rto E.out hnn.out (H.out.below hbz) hbz fun hh => absurd hh (by decide)
      · by_cases q2 : 1099511627776 < s
        · have E : Hid (y.mark who s t = (y, 1)) := Lib.hid (by rw [hE1.out, if_pos (.inr (.inl q2))])
          clear hE1
          go_enter Try.func36, Try.ntmps36
          go_upto_region 1 with (fail)
          have hb0 : Hid (Below w.heap.size w ((w.alloc (.cells #[.int .i64 gd, .slice (some ⟨b0, o0, none⟩) n c] 44)).alloc (.cells #[.int .i64 0, .slice none 0 0] 44))) := Lib.hid (((Below.refl _ _).alloc (Nat.le_refl _) _).alloc (by simp) _)
          have B1 : Hid (Blk ((w.alloc (.cells #[.int .i64 gd, .slice (some ⟨b0, o0, none⟩) n c] 44)).alloc (.cells #[.int .i64 0, .slice none 0 0] 44)) w.heap.size 44 #[.int .i64 gd, .slice (some ⟨b0, o0, none⟩) n c]) := Lib.hid ((Blk.new _ _ _).alloc _)
          have B2 : Hid (Blk ((w.alloc (.cells #[.int .i64 gd, .slice (some ⟨b0, o0, none⟩) n c] 44)).alloc (.cells #[.int .i64 0, .slice none 0 0] 44)) (w.heap.size + 1) 44 #[.int .i64 0, .slice none 0 0]) := Lib.hid (by have := Blk.new (w.alloc (.cells #[.int .i64 gd, .slice (some ⟨b0, o0, none⟩) n c] 44)) 44 #[.int .i64 0, .slice none 0 0]; simpa using this)
          obtain ⟨g1, hg1⟩ : ∃ g1, w.heap.size = g1 := ⟨_, rfl⟩
          have HG := Lib.hid hg1
          rw [hg1] at B1 B2 ⊢
          clear hg1
          generalize World.alloc (World.alloc w _) _ = wy at hb0 B1 B2 ⊢
          have HX : Hid (∀ wx, Below wy.heap.size wy wx → wx.cell? ⟨g1, 0, none⟩ = some (.int .i64 gd) ∧ wx.cell? ⟨g1, 1, none⟩ = some (.slice (some ⟨b0, o0, none⟩) n c) ∧ wx.cell? ⟨g1 + 1, 0, none⟩ = some (.int .i64 0) ∧ wx.cell? ⟨g1 + 1, 1, none⟩ = some (.slice none 0 0) ∧ wx.frozen? ⟨g1 + 1, 0, none⟩ = false ∧ wx.frozen? ⟨g1 + 1, 1, none⟩ = false ∧ g1 + 1 < wx.heap.size) := Lib.hid fun wx hb => by
            have b1 := B1.out.below hb B1.out.lt
            have b2 := B2.out.below hb B2.out.lt
            exact ⟨b1.cell 0, b1.cell 1, b2.cell 0, b2.cell 1, b2.frozen 0, b2.frozen 1, b2.lt⟩
          obtain ⟨c0, c1, e0, e1, f0, f1, -⟩ := HX.out wy (Below.refl _ _)
          go_wp2
          (try simp only [Exit.inBlock, Exit.then])
          refine bodyPost_ret (by simp [results, Try.results36, asAddr, go_sem, e0, e1]; rfl) rfl ?_
          have hbz := below_two (below_next hb0.out (Below.refl _ _)) (by rw [HG.out]; exact Nat.le_succ g1) (.int .i64 gd) (.slice (some ⟨b0, o0, none⟩) n c)
          exact rto E.out hnn.out (H.out.below hbz) hbz fun hh => absurd hh (by decide)
        · by_cases q3 : 256 < t.size
          · have E : Hid (y.mark who s t = (y, 1)) := Lib.hid (by rw [hE1.out, if_pos (.inr (.inr q3))])
            have q3I : (256 : Int) < (t.size : Int) := by omega
            clear hE1
            go_enter Try.func36, Try.ntmps36
            go_upto_region 1 with (fail)
            have hb0 : Hid (Below w.heap.size w ((w.alloc (.cells #[.int .i64 gd, .slice (some ⟨b0, o0, none⟩) n c] 44)).alloc (.cells #[.int .i64 0, .slice none 0 0] 44))) := Lib.hid (((Below.refl _ _).alloc (Nat.le_refl _) _).alloc (by simp) _)
            have B1 : Hid (Blk ((w.alloc (.cells #[.int .i64 gd, .slice (some ⟨b0, o0, none⟩) n c] 44)).alloc (.cells #[.int .i64 0, .slice none 0 0] 44)) w.heap.size 44 #[.int .i64 gd, .slice (some ⟨b0, o0, none⟩) n c]) := Lib.hid ((Blk.new _ _ _).alloc _)
            have B2 : Hid (Blk ((w.alloc (.cells #[.int .i64 gd, .slice (some ⟨b0, o0, none⟩) n c] 44)).alloc (.cells #[.int .i64 0, .slice none 0 0] 44)) (w.heap.size + 1) 44 #[.int .i64 0, .slice none 0 0]) := Lib.hid (by have := Blk.new (w.alloc (.cells #[.int .i64 gd, .slice (some ⟨b0, o0, none⟩) n c] 44)) 44 #[.int .i64 0, .slice none 0 0]; simpa using this)
            obtain ⟨g1, hg1⟩ : ∃ g1, w.heap.size = g1 := ⟨_, rfl⟩
            have HG := Lib.hid hg1
            rw [hg1] at B1 B2 ⊢
            clear hg1
            generalize World.alloc (World.alloc w _) _ = wy at hb0 B1 B2 ⊢
            have HX : Hid (∀ wx, Below wy.heap.size wy wx → wx.cell? ⟨g1, 0, none⟩ = some (.int .i64 gd) ∧ wx.cell? ⟨g1, 1, none⟩ = some (.slice (some ⟨b0, o0, none⟩) n c) ∧ wx.cell? ⟨g1 + 1, 0, none⟩ = some (.int .i64 0) ∧ wx.cell? ⟨g1 + 1, 1, none⟩ = some (.slice none 0 0) ∧ wx.frozen? ⟨g1 + 1, 0, none⟩ = false ∧ wx.frozen? ⟨g1 + 1, 1, none⟩ = false ∧ g1 + 1 < wx.heap.size) := Lib.hid fun wx hb => by
              have b1 := B1.out.below hb B1.out.lt
              have b2 := B2.out.below hb B2.out.lt
              exact ⟨b1.cell 0, b1.cell 1, b2.cell 0, b2.cell 1, b2.frozen 0, b2.frozen 1, b2.lt⟩
            obtain ⟨c0, c1, e0, e1, f0, f1, -⟩ := HX.out wy (Below.refl _ _)
            go_wp2
            (try simp only [Exit.inBlock, Exit.then])
            refine bodyPost_ret (by simp [results, Try.results36, asAddr, go_sem, e0, e1]; rfl) rfl ?_
            have hbz := below_two (below_next hb0.out (Below.refl _ _)) (by rw [HG.out]; exact Nat.le_succ g1) (.int .i64 gd) (.slice (some ⟨b0, o0, none⟩) n c)
            exact rto E.out hnn.out (H.out.below hbz) hbz fun hh => absurd hh (by decide)
          · have q3I : ¬ (256 : Int) < (t.size : Int) := by omega
            have q3B : decide ((256 : Int) < (t.size : Int)) = false := by simpa using q3I
            obtain ⟨i, rfl⟩ : ∃ i : Nat, who = (i : Int) := ⟨who.toNat, by omega⟩
            have hi : i < n := by omega
            have hiI : (i : Int) < (n : Int) := by omega
            have hi0 : (0 : Int) ≤ (i : Int) := by omega
            have hE2 : Hid (y.mark (i : Int) s t = if s ≤ y.z i 10 then (y, 91) else ({ y.upd i 10 s with r := fun j => if j = i then t else y.r j }, 0)) := Lib.hid (by rw [hE1.out, if_neg (by omega)]; rfl)
            have hcell : Hid (∀ wx, Below w.heap.size w wx → wx.cell? ⟨b0, o0 + i * 12 + 10, none⟩ = some (.int .i64 (y.z i 10))) := Lib.hid fun wx hb => (below_cell hb HBL.out).trans (HN0.out i 10 (by rw [hnn.out]; exact hi) (by omega))
            clear hE1 a1 a2
            by_cases hst : s ≤ y.z i 10
            · have E : Hid (y.mark (i : Int) s t = (y, 91)) := Lib.hid (by rw [hE2.out, if_pos hst])
              generalize y.z i 10 = zv at hcell hst
              clear hE2
              go_enter Try.func36, Try.ntmps36
              go_upto_region 1 with (fail)
              have hb0 : Hid (Below w.heap.size w ((w.alloc (.cells #[.int .i64 gd, .slice (some ⟨b0, o0, none⟩) n c] 44)).alloc (.cells #[.int .i64 0, .slice none 0 0] 44))) := Lib.hid (((Below.refl _ _).alloc (Nat.le_refl _) _).alloc (by simp) _)
              have B1 : Hid (Blk ((w.alloc (.cells #[.int .i64 gd, .slice (some ⟨b0, o0, none⟩) n c] 44)).alloc (.cells #[.int .i64 0, .slice none 0 0] 44)) w.heap.size 44 #[.int .i64 gd, .slice (some ⟨b0, o0, none⟩) n c]) := Lib.hid ((Blk.new _ _ _).alloc _)
              have B2 : Hid (Blk ((w.alloc (.cells #[.int .i64 gd, .slice (some ⟨b0, o0, none⟩) n c] 44)).alloc (.cells #[.int .i64 0, .slice none 0 0] 44)) (w.heap.size + 1) 44 #[.int .i64 0, .slice none 0 0]) := Lib.hid (by have := Blk.new (w.alloc (.cells #[.int .i64 gd, .slice (some ⟨b0, o0, none⟩) n c] 44)) 44 #[.int .i64 0, .slice none 0 0]; simpa using this)
              obtain ⟨g1, hg1⟩ : ∃ g1, w.heap.size = g1 := ⟨_, rfl⟩
              have HG := Lib.hid hg1
              rw [hg1] at B1 B2 ⊢
              clear hg1
              generalize World.alloc (World.alloc w _) _ = wy at hb0 B1 B2 ⊢
              have HX : Hid (∀ wx, Below wy.heap.size wy wx → wx.cell? ⟨g1, 0, none⟩ = some (.int .i64 gd) ∧ wx.cell? ⟨g1, 1, none⟩ = some (.slice (some ⟨b0, o0, none⟩) n c) ∧ wx.cell? ⟨g1 + 1, 0, none⟩ = some (.int .i64 0) ∧ wx.cell? ⟨g1 + 1, 1, none⟩ = some (.slice none 0 0) ∧ wx.frozen? ⟨g1 + 1, 0, none⟩ = false ∧ wx.frozen? ⟨g1 + 1, 1, none⟩ = false ∧ g1 + 1 < wx.heap.size) := Lib.hid fun wx hb => by
                have b1 := B1.out.below hb B1.out.lt
                have b2 := B2.out.below hb B2.out.lt
                exact ⟨b1.cell 0, b1.cell 1, b2.cell 0, b2.cell 1, b2.frozen 0, b2.frozen 1, b2.lt⟩
              obtain ⟨c0, c1, e0, e1, f0, f1, -⟩ := HX.out wy (Below.refl _ _)
              have z0 := hcell.out wy hb0.out
              go_wp2
              (try simp only [Exit.inBlock, Exit.then])
              refine bodyPost_ret (by simp [results, Try.results36, asAddr, go_sem, e0, e1]; rfl) rfl ?_
              have hbz := below_two (below_next hb0.out (Below.refl _ _)) (by rw [HG.out]; exact Nat.le_succ g1) (.int .i64 gd) (.slice (some ⟨b0, o0, none⟩) n c)
              exact rto E.out hnn.out (H.out.below hbz) hbz fun hh => absurd hh (by decide)
            · have E : Hid (y.mark (i : Int) s t = ({ y.upd i 10 s with r := fun j => if j = i then t else y.r j }, 0)) := Lib.hid (by rw [hE2.out, if_neg hst])
              have hstB : decide (s ≤ y.z i 10) = false := by simpa using hst
              clear hE2
              go_enter Try.func36, Try.ntmps36
              go_upto_region 1 with (fail)
              have hb0 : Hid (Below w.heap.size w ((w.alloc (.cells #[.int .i64 gd, .slice (some ⟨b0, o0, none⟩) n c] 44)).alloc (.cells #[.int .i64 0, .slice none 0 0] 44))) := Lib.hid (((Below.refl _ _).alloc (Nat.le_refl _) _).alloc (by simp) _)
              have B1 : Hid (Blk ((w.alloc (.cells #[.int .i64 gd, .slice (some ⟨b0, o0, none⟩) n c] 44)).alloc (.cells #[.int .i64 0, .slice none 0 0] 44)) w.heap.size 44 #[.int .i64 gd, .slice (some ⟨b0, o0, none⟩) n c]) := Lib.hid ((Blk.new _ _ _).alloc _)
              have B2 : Hid (Blk ((w.alloc (.cells #[.int .i64 gd, .slice (some ⟨b0, o0, none⟩) n c] 44)).alloc (.cells #[.int .i64 0, .slice none 0 0] 44)) (w.heap.size + 1) 44 #[.int .i64 0, .slice none 0 0]) := Lib.hid (by have := Blk.new (w.alloc (.cells #[.int .i64 gd, .slice (some ⟨b0, o0, none⟩) n c] 44)) 44 #[.int .i64 0, .slice none 0 0]; simpa using this)
              obtain ⟨g1, hg1⟩ : ∃ g1, w.heap.size = g1 := ⟨_, rfl⟩
              have HG := Lib.hid hg1
              rw [hg1] at B1 B2 ⊢
              clear hg1
              generalize World.alloc (World.alloc w _) _ = wy at hb0 B1 B2 ⊢
              have HX : Hid (∀ wx, Below wy.heap.size wy wx → wx.cell? ⟨g1, 0, none⟩ = some (.int .i64 gd) ∧ wx.cell? ⟨g1, 1, none⟩ = some (.slice (some ⟨b0, o0, none⟩) n c) ∧ wx.cell? ⟨g1 + 1, 0, none⟩ = some (.int .i64 0) ∧ wx.cell? ⟨g1 + 1, 1, none⟩ = some (.slice none 0 0) ∧ wx.frozen? ⟨g1 + 1, 0, none⟩ = false ∧ wx.frozen? ⟨g1 + 1, 1, none⟩ = false ∧ g1 + 1 < wx.heap.size) := Lib.hid fun wx hb => by
                have b1 := B1.out.below hb B1.out.lt
                have b2 := B2.out.below hb B2.out.lt
                exact ⟨b1.cell 0, b1.cell 1, b2.cell 0, b2.cell 1, b2.frozen 0, b2.frozen 1, b2.lt⟩
              obtain ⟨c0, c1, e0, e1, f0, f1, -⟩ := HX.out wy (Below.refl _ _)
              have z0 := hcell.out wy hb0.out
              have HCp2 := Lib.hid (HCp.out wy hb0.out)
              go_upto_region 8 with (first
                | (go_at_call 41; (refine (HCp2.out).mono ?_); rintro e wc ⟨b, o, c', rfl, hO, hbc⟩; have HO := Lib.hid hO; have HBc := Lib.hid hbc; clear hO hbc))
              have hbd : Hid (Below wc.heap.size wc (wc.alloc (.cells #[.int .i64 gd, .slice (some ⟨b, o, none⟩) n c'] 44))) := Lib.hid ((Below.refl _ _).alloc (Nat.le_refl _) _)
              have BL : Hid (Blk (wc.alloc (.cells #[.int .i64 gd, .slice (some ⟨b, o, none⟩) n c'] 44)) wc.heap.size 44 #[.int .i64 gd, .slice (some ⟨b, o, none⟩) n c']) := Lib.hid (Blk.new _ _ _)
              have hbL : Hid (b ≠ wc.heap.size ∧ b ≠ g1 + 1) := Lib.hid (by
                have h1 := HO.out.2.1
                have h3 := HO.out.1
                have h4 := (HX.out wy (Below.refl _ _)).2.2.2.2.2.2
                omega)
              obtain ⟨g3, hg3⟩ : ∃ g3, wc.heap.size = g3 := ⟨_, rfl⟩
              rw [hg3] at BL hbL ⊢
              clear hg3
              generalize hwd : World.alloc wc _ = wd at hbd BL ⊢
              have HO2 := Lib.hid (HO.out.below hbd.out)
              have HBd := Lib.hid (below_next HBc.out hbd.out)
              clear hwd c0 c1 e0 e1 f0 f1 HCp z0
              have l1 : wd.cell? ⟨g3, 1, none⟩ = some (.slice (some ⟨b, o, none⟩) n c') := BL.out.cell 1
              obtain ⟨v1, v2⟩ := HO2.out.num (i := i) (k := 10) (by rw [hnn.out]; exact hi) (by omega)
              go_upto_region 9 with (fail)
              have HO3 : Hid (ROwn wy (wd.setCell ⟨b, o + i * 12 + 10, none⟩ (.int .i64 s)) b o c' (y.upd i 10 s)) := Lib.hid (by
                have := HO2.out.put (q := i * 12 + 10) (by rw [hnn.out]; omega) (.int .i64 s) (y' := y.upd i 10 s) rfl (lcells_set y (by omega) s)
                rw [← Nat.add_assoc] at this
                exact this)
              have HBs : Hid (Below wy.heap.size wy (wd.setCell ⟨b, o + i * 12 + 10, none⟩ (.int .i64 s))) := Lib.hid (HBd.out.setCell HO.out.1 _)
              have BL2 : Hid (Blk (wd.setCell ⟨b, o + i * 12 + 10, none⟩ (.int .i64 s)) g3 44 #[.int .i64 gd, .slice (some ⟨b, o, none⟩) n c']) := Lib.hid (BL.out.far hbL.out.1.symm _)
              clear l1 v1 v2
              generalize World.setCell wd _ _ = ws at HO3 HBs BL2 ⊢
              have l1 : ws.cell? ⟨g3, 1, none⟩ = some (.slice (some ⟨b, o, none⟩) n c') := BL2.out.cell 1
              obtain ⟨v1, v2⟩ := HO3.out.text (i := i) (by show i < y.n; rw [hnn.out]; exact hi)
              go_upto_region 10 with (fail)
              have HO4 : Hid (ROwn wy (ws.setCell ⟨b, o + i * 12 + 11, none⟩ (.string t)) b o c' { y.upd i 10 s with r := fun j => if j = i then t else y.r j }) := Lib.hid (by
                have := HO3.out.put (q := i * 12 + 11) (by show _ < y.n * 12; rw [hnn.out]; omega) (.string t) (y' := { y.upd i 10 s with r := fun j => if j = i then t else y.r j }) rfl (by rw [← lcells_set y (by omega) s]; exact lcells_mark y s t)
                rw [← Nat.add_assoc] at this
                exact this)
              have HBu : Hid (Below wy.heap.size wy (ws.setCell ⟨b, o + i * 12 + 11, none⟩ (.string t))) := Lib.hid (HBs.out.setCell HO.out.1 _)
              have BL3 : Hid (Blk (ws.setCell ⟨b, o + i * 12 + 11, none⟩ (.string t)) g3 44 #[.int .i64 gd, .slice (some ⟨b, o, none⟩) n c']) := Lib.hid (BL2.out.far hbL.out.1.symm _)
              clear l1 v1 v2
              generalize World.setCell ws _ _ = wu at HO4 HBu BL3 ⊢
              obtain ⟨-, -, e0, e1, f0, f1, -⟩ := HX.out wu HBu.out
              have l0 : wu.cell? ⟨g3, 0, none⟩ = some (.int .i64 gd) := BL3.out.cell 0
              have l1 : wu.cell? ⟨g3, 1, none⟩ = some (.slice (some ⟨b, o, none⟩) n c') := BL3.out.cell 1
              go_wp2
              (try simp only [Exit.inBlock, Exit.then])
              refine bodyPost_ret (by simp [results, Try.results36, asAddr, go_sem, e0, e1]; rfl) rfl ?_
              have hbz := below_two (below_next hb0.out HBu.out) (by rw [HG.out]; exact Nat.le_succ g1) (.int .i64 gd) (.slice (some ⟨b, o, none⟩) n c')
              have hfin := (HO4.out.weak hb0.out.size).two (g1 := g1) hbL.out.2 (.int .i64 gd) (.slice (some ⟨b, o, none⟩) n c')
              exact rto E.out hnn.out hfin.rat hbz fun _ => ⟨b, o, rfl, hfin⟩
end Go.Proofs.Ythhjockofihohaa
