/- The reference's Enter, Propose, Vote, Check (printed by genre.py). -/
import Derived.Test.YtedndjbhgbdpoaaRlZ
namespace Go.Proofs.Ytedndjbhgbdpoaa
open Go.RowKit
set_option linter.unusedSimpArgs false
set_option linter.unusedVariables false
def RTold (w : World) (A B : Option Addr) (L : List It) (L0 : List (Kb × Value)) (n : Int) (r : Rl × Int) (e : Ending) (w' : World) : Prop := ∃ A' c' B' cB' L1, e = .returned (.tuple #[.agg #[.int .i64 n, .int .i64 r.1.view, .int .i64 r.1.low, .slice A' r.1.L.length c', .slice B' r.1.kept.length cB'], .int .i64 r.2]) ∧ L1.map Prod.fst = r.1.kept ∧ Below w.heap.size w w' ∧ Lasts w w' (RlAt A B L L0) (RlAt A' B' r.1.L L1)
theorem rtold {w w' : World} {A0 B0 : Option Addr} {L : List It} {L0 L1 : List (Kb × Value)} {r : Rl × Int} {y' : Rl} {A B : Option Addr} {m c k cB : Nat} {n v lo code : Int} (hr : r = (y', code)) (hm : y'.L.length = m) (hk : y'.kept.length = k) (hv : y'.view = v) (hl : y'.low = lo) (h1 : L1.map Prod.fst = y'.kept) (h3 : Below w.heap.size w w') (h2 : Lasts w w' (RlAt A0 B0 L L0) (RlAt A B y'.L L1)) : RTold w A0 B0 L L0 n r (.returned (.tuple #[.agg #[.int .i64 n, .int .i64 v, .int .i64 lo, .slice A m c, .slice B k cB], .int .i64 code])) w' := by
  subst hr hm hk hv hl
  exact ⟨A, c, B, cB, L1, rfl, h1, h3, h2⟩
set_option maxHeartbeats 4000000 in
theorem renter_calls (w : World) (A B : Option Addr) (cA cB : Nat) (y : Rl) (L0 : List (Kb × Value)) (hL0 : L0.map Prod.fst = y.kept) (view : Int) :
    Calls Try.prog 44 #[.agg #[.int .i64 y.n, .int .i64 y.view, .int .i64 y.low, .slice A y.L.length cA, .slice B y.kept.length cB], .int .i64 view] w (RTold w A B y.L L0 y.n (y.enter view)) := by
  have HL0 := Lib.hid hL0
  obtain ⟨m, hm⟩ : ∃ m, Hid (y.L.length = m) := ⟨_, Lib.hid rfl⟩
  obtain ⟨k, hkk⟩ : ∃ k, Hid (y.kept.length = k) := ⟨_, Lib.hid rfl⟩
  obtain ⟨n, hnn⟩ : ∃ n, Hid (y.n = n) := ⟨_, Lib.hid rfl⟩
  obtain ⟨v, hv⟩ : ∃ v, Hid (y.view = v) := ⟨_, Lib.hid rfl⟩
  obtain ⟨lo, hl⟩ : ∃ lo, Hid (y.low = lo) := ⟨_, Lib.hid rfl⟩
  rw [hm.out, hkk.out, hnn.out, hv.out, hl.out]
  clear hL0
  have HE : Hid (y.enter view = if view ≤ v ∨ 1048576 < view then (y, 1) else ({ y with view := view }, 0)) := Lib.hid (by rw [← hv.out]; rfl)
  have hb0 : Hid (Below w.heap.size w ((w.alloc (.cells #[.int .i64 n, .int .i64 v, .int .i64 lo, .slice A m cA, .slice B k cB] 65)).alloc (.cells #[.int .i64 0, .int .i64 0, .int .i64 0, .slice none 0 0, .slice none 0 0] 65))) := Lib.hid (((Below.refl _ _).alloc (Nat.le_refl _) _).alloc (by simp) _)
  have B0 : Hid (Blk ((w.alloc (.cells #[.int .i64 n, .int .i64 v, .int .i64 lo, .slice A m cA, .slice B k cB] 65)).alloc (.cells #[.int .i64 0, .int .i64 0, .int .i64 0, .slice none 0 0, .slice none 0 0] 65)) w.heap.size 65 #[.int .i64 n, .int .i64 v, .int .i64 lo, .slice A m cA, .slice B k cB]) := Lib.hid ((Blk.new w 65 #[.int .i64 n, .int .i64 v, .int .i64 lo, .slice A m cA, .slice B k cB]).alloc (.cells #[.int .i64 0, .int .i64 0, .int .i64 0, .slice none 0 0, .slice none 0 0] 65))
  have B1 : Hid (Blk ((w.alloc (.cells #[.int .i64 n, .int .i64 v, .int .i64 lo, .slice A m cA, .slice B k cB] 65)).alloc (.cells #[.int .i64 0, .int .i64 0, .int .i64 0, .slice none 0 0, .slice none 0 0] 65)) (w.heap.size + 1) 65 #[.int .i64 0, .int .i64 0, .int .i64 0, .slice none 0 0, .slice none 0 0]) := Lib.hid (by have := (Blk.new (w.alloc (.cells #[.int .i64 n, .int .i64 v, .int .i64 lo, .slice A m cA, .slice B k cB] 65)) 65 #[.int .i64 0, .int .i64 0, .int .i64 0, .slice none 0 0, .slice none 0 0]); simpa using this)
  go_enter Try.func44, Try.ntmps44
  go_upto_region 1 with (fail)
  obtain ⟨g1, hg1⟩ : ∃ g1, w.heap.size = g1 := ⟨_, rfl⟩
  have HG := Lib.hid hg1
  rw [hg1] at B0 B1 ⊢
  clear hg1
  generalize World.alloc (World.alloc w _) _ = wy at hb0 B0 B1 ⊢
  have HX : Hid (∀ wx : World, Below wy.heap.size wy wx → (wx.cell? ⟨g1, 0, none⟩ = some (.int .i64 n) ∧ wx.cell? ⟨g1, 1, none⟩ = some (.int .i64 v) ∧ wx.cell? ⟨g1, 2, none⟩ = some (.int .i64 lo) ∧ wx.cell? ⟨g1, 3, none⟩ = some (.slice A m cA) ∧ wx.cell? ⟨g1, 4, none⟩ = some (.slice B k cB)) ∧ (wx.cell? ⟨g1 + 1, 0, none⟩ = some (.int .i64 0) ∧ wx.cell? ⟨g1 + 1, 1, none⟩ = some (.int .i64 0) ∧ wx.cell? ⟨g1 + 1, 2, none⟩ = some (.int .i64 0) ∧ wx.cell? ⟨g1 + 1, 3, none⟩ = some (.slice none 0 0) ∧ wx.cell? ⟨g1 + 1, 4, none⟩ = some (.slice none 0 0)) ∧ (wx.frozen? ⟨g1 + 1, 0, none⟩ = false ∧ wx.frozen? ⟨g1 + 1, 1, none⟩ = false ∧ wx.frozen? ⟨g1 + 1, 2, none⟩ = false ∧ wx.frozen? ⟨g1 + 1, 3, none⟩ = false ∧ wx.frozen? ⟨g1 + 1, 4, none⟩ = false) ∧ (wx.frozen? ⟨g1, 0, none⟩ = false ∧ wx.frozen? ⟨g1, 1, none⟩ = false ∧ wx.frozen? ⟨g1, 2, none⟩ = false ∧ wx.frozen? ⟨g1, 3, none⟩ = false ∧ wx.frozen? ⟨g1, 4, none⟩ = false)) := Lib.hid fun wx hb => by
    have b0 := B0.out.below hb B0.out.lt
    have b1 := B1.out.below hb B1.out.lt
    exact ⟨⟨b0.cell 0, b0.cell 1, b0.cell 2, b0.cell 3, b0.cell 4⟩, ⟨b1.cell 0, b1.cell 1, b1.cell 2, b1.cell 3, b1.cell 4⟩, ⟨b1.frozen 0, b1.frozen 1, b1.frozen 2, b1.frozen 3, b1.frozen 4⟩, ⟨b0.frozen 0, b0.frozen 1, b0.frozen 2, b0.frozen 3, b0.frozen 4⟩⟩
  obtain ⟨⟨c0, c1, c2, c3, c4⟩, ⟨z0, z1, z2, z3, z4⟩, ⟨f0, f1, f2, f3, f4⟩, ⟨e0, e1, e2, e3, e4⟩⟩ := HX.out wy (Below.refl _ _)
  by_cases a : view ≤ v
  · have E : Hid (y.enter view = (y, 1)) := Lib.hid (by rw [HE.out, if_pos (.inl a)])
    go_wp2
    (try simp only [Exit.inBlock, Exit.then])
    refine bodyPost_ret (by simp [results, Try.results44, asAddr, go_sem, z0, z1, z2, z3, z4]; rfl) rfl ?_
    have hbz := below_five (B := w.heap.size) (g := g1 + 1) (below_next hb0.out (Below.refl _ _)) (by rw [HG.out]; omega) (.int .i64 n) (.int .i64 v) (.int .i64 lo) (.slice A m cA) (.slice B k cB)
    exact rtold E.out hm.out hkk.out hv.out hl.out HL0.out hbz (Lasts.same _ _ _)
  · by_cases b : 1048576 < view
    · have E : Hid (y.enter view = (y, 1)) := Lib.hid (by rw [HE.out, if_pos (.inr b)])
      have aB : decide (view ≤ v) = false := by simpa using a
      go_wp2
      (try simp only [Exit.inBlock, Exit.then])
      refine bodyPost_ret (by simp [results, Try.results44, asAddr, go_sem, z0, z1, z2, z3, z4]; rfl) rfl ?_
      have hbz := below_five (B := w.heap.size) (g := g1 + 1) (below_next hb0.out (Below.refl _ _)) (by rw [HG.out]; omega) (.int .i64 n) (.int .i64 v) (.int .i64 lo) (.slice A m cA) (.slice B k cB)
      exact rtold E.out hm.out hkk.out hv.out hl.out HL0.out hbz (Lasts.same _ _ _)
    · have E : Hid (y.enter view = ({ y with view := view }, 0)) := Lib.hid (by rw [HE.out, if_neg (by omega)])
      have aB : decide (view ≤ v) = false := by simpa using a
      have bB : decide (1048576 < view) = false := by simpa using b
      go_wp2
      (try simp only [Exit.inBlock, Exit.then])
      refine bodyPost_ret (by simp [results, Try.results44, asAddr, go_sem, c0, c1, c2, c3, c4, z0, z1, z2, z3, z4]; rfl) rfl ?_
      have hbz := below_five (B := w.heap.size) (g := g1 + 1) (hb0.out.setCell (p := ⟨g1, 1, none⟩) (by rw [HG.out]; exact Nat.le_refl _) (.int .i64 view)) (by rw [HG.out]; omega) (.int .i64 n) (.int .i64 view) (.int .i64 lo) (.slice A m cA) (.slice B k cB)
      exact rtold E.out hm.out hkk.out rfl hl.out HL0.out hbz (Lasts.same _ _ _)
end Go.Proofs.Ytedndjbhgbdpoaa