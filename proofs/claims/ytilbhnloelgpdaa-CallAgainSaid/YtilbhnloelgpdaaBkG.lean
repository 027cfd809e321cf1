/- New, Get, Orders, mine. -/
import Derived.Test.YtilbhnloelgpdaaBkM
namespace Go.Proofs.Ytilbhnloelgpdaa
open Go.RowKit
set_option linter.unusedVariables false
set_option linter.unusedSimpArgs false
theorem blk_six {w : World} {k : Nat} {t : TypeId} {a0 a1 a2 a3 a4 a5 : Value} (h : Blk w k t #[a0, a1, a2, a3, a4, a5]) (b0 b1 b2 b3 b4 b5 : Value) : Blk ((((((w.setCell ⟨k, 0, none⟩ b0).setCell ⟨k, 1, none⟩ b1).setCell ⟨k, 2, none⟩ b2).setCell ⟨k, 3, none⟩ b3).setCell ⟨k, 4, none⟩ b4).setCell ⟨k, 5, none⟩ b5) k t #[b0, b1, b2, b3, b4, b5] := by
  have h1 := (((((h.set_ 0 b0).set_ 1 b1).set_ 2 b2).set_ 3 b3).set_ 4 b4).set_ 5 b5
  simp only [List.setIfInBounds_toArray, List.set_cons_zero, List.set_cons_succ] at h1
  exact h1
/-- A new book. -/
def Newly (w : World) (e : Ending) (w' : World) : Prop := ∃ g, e = .returned (.pointer (some ⟨g, 0, none⟩)) ∧ AtB w' g none Bk.fresh ∧ w.heap.size ≤ g ∧ Below w.heap.size w w'
set_option maxHeartbeats 2000000 in
theorem new_calls (w : World) : Calls Try.prog 28 #[] w (Newly w) := by
  have hb0 : Hid (Below w.heap.size w (w.alloc (.cells #[.slice none 0 0, .int .i64 1] 76))) := Lib.hid ((Below.refl _ _).alloc (Nat.le_refl _) _)
  have B0 := Lib.hid (Blk.new w 76 #[.slice none 0 0, .int .i64 1])
  go_enter Try.func28, Try.ntmps28
  go_wp2
  refine bodyPost_ret (by simp [results, Try.results28, asAddr, go_sem]; rfl) rfl ?_
  exact ⟨w.heap.size, rfl, ⟨⟨none, 0, B0.out, Own.none_ _ _⟩, nofun, Bk.fresh_ok⟩, Nat.le_refl _, hb0.out⟩
set_option maxHeartbeats 2000000 in
theorem orders_calls (w : World) (g : Nat) (gl : Option Nat) (b : Bk) (h : AtB w g gl b) : Calls Try.prog 23 #[.pointer (some ⟨g, 0, none⟩)] w (Listed w b.l) := by
  obtain ⟨A, c, hB, hO⟩ := h.box
  have HB := Lib.hid hB
  have HC := Lib.hid (clone_calls w A b.l c (hO.orow rfl).2.2 h.ok.few)
  obtain ⟨n, hn⟩ : ∃ n, Hid (b.l.length = n) := ⟨_, Lib.hid rfl⟩
  rw [hn.out] at HC HB
  clear h hB hO
  go_enter Try.func23, Try.ntmps23
  have c0 := HB.out.cell 0
  simp at c0
  go_wp2_with (go_at_call 42; (with_reducible refine HC.out.mono ?_); rintro e w1 ⟨A1, c1, rfl, hz1, hb1⟩; have HZ := Lib.hid hz1; have HB1 := Lib.hid hb1; clear hz1 hb1)
  refine bodyPost_ret (by simp [results, Try.results23, asAddr, go_sem]; rfl) rfl ?_
  exact ⟨A1, c1, rfl, HZ.out, HB1.out⟩
theorem at_in {L : List Ord} {id : Int} (h : Bk.ix L id < L.length) : Bk.at_ L id = (Bk.ix L id : Int) := by unfold Bk.at_; rw [if_pos h]
theorem at_out {L : List Ord} {id : Int} (h : ¬ Bk.ix L id < L.length) : Bk.at_ L id = -1 := by unfold Bk.at_; rw [if_neg h]
set_option maxHeartbeats 4000000 in
theorem get_calls (w : World) (g : Nat) (gl : Option Nat) (b : Bk) (h : AtB w g gl b) (id : Int) : Calls Try.prog 26 #[.pointer (some ⟨g, 0, none⟩), .int .i64 id] w (Told w (.tuple #[oval (b.get id).1, .bool (b.get id).2])) := by
  have H := Lib.hid h
  have HAt := Lib.hid (fun wx (hb : Below w.heap.size w wx) => at_calls wx g gl b (h.below hb) id)
  have hb0 : Hid (Below w.heap.size w (w.alloc (.cells #[.int .i64 0, .int .i64 0, .int .i64 0, .int .i64 0, .int .i64 0, .bool false] 33))) := Lib.hid ((Below.refl _ _).alloc (Nat.le_refl _) _)
  have B0 := Lib.hid (Blk.new w 33 #[.int .i64 0, .int .i64 0, .int .i64 0, .int .i64 0, .int .i64 0, .bool false])
  by_cases hi : Bk.ix b.l id < b.l.length
  · have hg : b.get id = (b.l.getD (Bk.ix b.l id) ord0, true) := by unfold Bk.get; rw [if_pos hi]
    rw [hg]
    rw [at_in hi] at HAt
    obtain ⟨A, c, hB, hO⟩ := h.box
    have HB := Lib.hid hB
    have HOw := Lib.hid (hO.orow rfl).2.2
    obtain ⟨n, hn⟩ : ∃ n, Hid (b.l.length = n) := ⟨_, Lib.hid rfl⟩
    obtain ⟨i, hie⟩ : ∃ i, Hid (Bk.ix b.l id = i) := ⟨_, Lib.hid rfl⟩
    have hi2 := hi
    rw [hn.out, hie.out] at hi2
    rw [hie.out] at HAt ⊢
    have hL : Hid (i < b.l.length) := Lib.hid (by rw [hn.out]; exact hi2)
    obtain ⟨bb, o, rfl⟩ : ∃ bb o, A = some ⟨bb, o, none⟩ := by
      obtain ⟨bb, o, e, _⟩ := HOw.out.cells hL.out
      exact ⟨bb, o, e⟩
    have HC := Lib.hid (fun wx hh => ORow.six HOw.out hL.out (w' := wx) hh)
    rw [hn.out] at HB
    have i0 : (0 : Int) ≤ (i : Int) := by omega
    have hiI : (i : Int) < (n : Int) := by omega
    generalize b.l.getD i ord0 = q at HC ⊢
    obtain ⟨qi, qo, qp, qa, qpl, qb⟩ := q
    unfold oval
    simp only at HC ⊢
    clear h hB hO hi hg hi2
    go_enter Try.func26, Try.ntmps26
    go_upto_region 1 with (fail)
    obtain ⟨k, hk⟩ : ∃ k, w.heap.size = k := ⟨_, rfl⟩
    have HKk := Lib.hid hk
    rw [hk] at B0 ⊢
    clear hk
    generalize World.alloc w _ = wy at hb0 B0 ⊢
    go_upto_region 4 with (go_at_call 43; (with_reducible refine (HAt.out _ hb0.out).mono ?_); rintro e w1 ⟨rfl, hh⟩; have hb1 := Lib.hid hh; clear hh)
    have hbw := Lib.hid (below_next hb0.out hb1.out)
    have BK := Lib.hid (B0.out.below hb1.out B0.out.lt)
    have BG := Lib.hid (HB.out.below hbw.out HB.out.lt)
    have x0 := BG.out.cell 0
    simp at x0
    obtain ⟨c0, c1, c2, c3, c4, c5⟩ := HC.out w1 hbw.out
    have hbz : Hid (Below w.heap.size w ((((((w1.setCell ⟨k, 0, none⟩ (.int .i64 qi)).setCell ⟨k, 1, none⟩ (.int .i64 qo)).setCell ⟨k, 2, none⟩ (.int .i64 qp)).setCell ⟨k, 3, none⟩ (.int .i64 qa)).setCell ⟨k, 4, none⟩ (.int .i64 qpl)).setCell ⟨k, 5, none⟩ (.bool qb))) := Lib.hid (((((((hbw.out.setCell (p := ⟨k, _, none⟩) (Nat.le_of_eq HKk.out) _).setCell (p := ⟨k, _, none⟩) (Nat.le_of_eq HKk.out) _).setCell (p := ⟨k, _, none⟩) (Nat.le_of_eq HKk.out) _).setCell (p := ⟨k, _, none⟩) (Nat.le_of_eq HKk.out) _).setCell (p := ⟨k, _, none⟩) (Nat.le_of_eq HKk.out) _).setCell (p := ⟨k, _, none⟩) (Nat.le_of_eq HKk.out) _))
    obtain ⟨k0, k1, k2, k3, k4, k5⟩ : (w1.cell? ⟨k, 0, none⟩ = some (.int .i64 0) ∧ w1.cell? ⟨k, 1, none⟩ = some (.int .i64 0) ∧ w1.cell? ⟨k, 2, none⟩ = some (.int .i64 0) ∧ w1.cell? ⟨k, 3, none⟩ = some (.int .i64 0) ∧ w1.cell? ⟨k, 4, none⟩ = some (.int .i64 0) ∧ w1.cell? ⟨k, 5, none⟩ = some (.bool false)) := ⟨BK.out.cell 0, BK.out.cell 1, BK.out.cell 2, BK.out.cell 3, BK.out.cell 4, BK.out.cell 5⟩
    obtain ⟨f0, f1, f2, f3, f4, f5⟩ : (w1.frozen? ⟨k, 0, none⟩ = false ∧ w1.frozen? ⟨k, 1, none⟩ = false ∧ w1.frozen? ⟨k, 2, none⟩ = false ∧ w1.frozen? ⟨k, 3, none⟩ = false ∧ w1.frozen? ⟨k, 4, none⟩ = false ∧ w1.frozen? ⟨k, 5, none⟩ = false) := ⟨BK.out.frozen 0, BK.out.frozen 1, BK.out.frozen 2, BK.out.frozen 3, BK.out.frozen 4, BK.out.frozen 5⟩
    go_wp2
    (try simp only [Exit.inBlock, Exit.then])
    have BZ : Hid (Blk ((((((w1.setCell ⟨k, 0, none⟩ (.int .i64 qi)).setCell ⟨k, 1, none⟩ (.int .i64 qo)).setCell ⟨k, 2, none⟩ (.int .i64 qp)).setCell ⟨k, 3, none⟩ (.int .i64 qa)).setCell ⟨k, 4, none⟩ (.int .i64 qpl)).setCell ⟨k, 5, none⟩ (.bool qb)) k 33 #[.int .i64 qi, .int .i64 qo, .int .i64 qp, .int .i64 qa, .int .i64 qpl, .bool qb]) := Lib.hid (blk_six BK.out _ _ _ _ _ _)
    obtain ⟨wz, hwz⟩ : ∃ wz, ((((((w1.setCell ⟨k, 0, none⟩ (.int .i64 qi)).setCell ⟨k, 1, none⟩ (.int .i64 qo)).setCell ⟨k, 2, none⟩ (.int .i64 qp)).setCell ⟨k, 3, none⟩ (.int .i64 qa)).setCell ⟨k, 4, none⟩ (.int .i64 qpl)).setCell ⟨k, 5, none⟩ (.bool qb)) = wz := ⟨_, rfl⟩
    rw [hwz] at hbz BZ ⊢
    obtain ⟨z0, z1, z2, z3, z4, z5⟩ : (wz.cell? ⟨k, 0, none⟩ = some (.int .i64 qi) ∧ wz.cell? ⟨k, 1, none⟩ = some (.int .i64 qo) ∧ wz.cell? ⟨k, 2, none⟩ = some (.int .i64 qp) ∧ wz.cell? ⟨k, 3, none⟩ = some (.int .i64 qa) ∧ wz.cell? ⟨k, 4, none⟩ = some (.int .i64 qpl) ∧ wz.cell? ⟨k, 5, none⟩ = some (.bool qb)) := ⟨BZ.out.cell 0, BZ.out.cell 1, BZ.out.cell 2, BZ.out.cell 3, BZ.out.cell 4, BZ.out.cell 5⟩
    refine bodyPost_ret (by simp [results, Try.results26, asAddr, go_sem, z0, z1, z2, z3, z4, z5]; rfl) rfl ?_
    exact ⟨rfl, hbz.out⟩
  · have hg : b.get id = (ord0, false) := by unfold Bk.get; rw [if_neg hi]
    rw [hg]
    rw [at_out hi] at HAt
    clear h hi hg
    unfold oval ord0
    simp only
    go_enter Try.func26, Try.ntmps26
    go_upto_region 1 with (fail)
    obtain ⟨k, hk⟩ : ∃ k, w.heap.size = k := ⟨_, rfl⟩
    have HKk := Lib.hid hk
    rw [hk] at B0 ⊢
    clear hk
    generalize World.alloc w _ = wy at hb0 B0 ⊢
    go_upto_region 4 with (go_at_call 43; (with_reducible refine (HAt.out _ hb0.out).mono ?_); rintro e w1 ⟨rfl, hh⟩; have hb1 := Lib.hid hh; clear hh)
    have hbw := Lib.hid (below_next hb0.out hb1.out)
    have BK := Lib.hid (B0.out.below hb1.out B0.out.lt)
    have hbz : Hid (Below w.heap.size w ((((((w1.setCell ⟨k, 0, none⟩ (.int .i64 0)).setCell ⟨k, 1, none⟩ (.int .i64 0)).setCell ⟨k, 2, none⟩ (.int .i64 0)).setCell ⟨k, 3, none⟩ (.int .i64 0)).setCell ⟨k, 4, none⟩ (.int .i64 0)).setCell ⟨k, 5, none⟩ (.bool false))) := Lib.hid (((((((hbw.out.setCell (p := ⟨k, _, none⟩) (Nat.le_of_eq HKk.out) _).setCell (p := ⟨k, _, none⟩) (Nat.le_of_eq HKk.out) _).setCell (p := ⟨k, _, none⟩) (Nat.le_of_eq HKk.out) _).setCell (p := ⟨k, _, none⟩) (Nat.le_of_eq HKk.out) _).setCell (p := ⟨k, _, none⟩) (Nat.le_of_eq HKk.out) _).setCell (p := ⟨k, _, none⟩) (Nat.le_of_eq HKk.out) _))
    obtain ⟨k0, k1, k2, k3, k4, k5⟩ : (w1.cell? ⟨k, 0, none⟩ = some (.int .i64 0) ∧ w1.cell? ⟨k, 1, none⟩ = some (.int .i64 0) ∧ w1.cell? ⟨k, 2, none⟩ = some (.int .i64 0) ∧ w1.cell? ⟨k, 3, none⟩ = some (.int .i64 0) ∧ w1.cell? ⟨k, 4, none⟩ = some (.int .i64 0) ∧ w1.cell? ⟨k, 5, none⟩ = some (.bool false)) := ⟨BK.out.cell 0, BK.out.cell 1, BK.out.cell 2, BK.out.cell 3, BK.out.cell 4, BK.out.cell 5⟩
    obtain ⟨f0, f1, f2, f3, f4, f5⟩ : (w1.frozen? ⟨k, 0, none⟩ = false ∧ w1.frozen? ⟨k, 1, none⟩ = false ∧ w1.frozen? ⟨k, 2, none⟩ = false ∧ w1.frozen? ⟨k, 3, none⟩ = false ∧ w1.frozen? ⟨k, 4, none⟩ = false ∧ w1.frozen? ⟨k, 5, none⟩ = false) := ⟨BK.out.frozen 0, BK.out.frozen 1, BK.out.frozen 2, BK.out.frozen 3, BK.out.frozen 4, BK.out.frozen 5⟩
    go_wp2
    (try simp only [Exit.inBlock, Exit.then])
    have BZ : Hid (Blk ((((((w1.setCell ⟨k, 0, none⟩ (.int .i64 0)).setCell ⟨k, 1, none⟩ (.int .i64 0)).setCell ⟨k, 2, none⟩ (.int .i64 0)).setCell ⟨k, 3, none⟩ (.int .i64 0)).setCell ⟨k, 4, none⟩ (.int .i64 0)).setCell ⟨k, 5, none⟩ (.bool false)) k 33 #[.int .i64 0, .int .i64 0, .int .i64 0, .int .i64 0, .int .i64 0, .bool false]) := Lib.hid (blk_six BK.out _ _ _ _ _ _)
    obtain ⟨wz, hwz⟩ : ∃ wz, ((((((w1.setCell ⟨k, 0, none⟩ (.int .i64 0)).setCell ⟨k, 1, none⟩ (.int .i64 0)).setCell ⟨k, 2, none⟩ (.int .i64 0)).setCell ⟨k, 3, none⟩ (.int .i64 0)).setCell ⟨k, 4, none⟩ (.int .i64 0)).setCell ⟨k, 5, none⟩ (.bool false)) = wz := ⟨_, rfl⟩
    rw [hwz] at hbz BZ ⊢
    obtain ⟨z0, z1, z2, z3, z4, z5⟩ : (wz.cell? ⟨k, 0, none⟩ = some (.int .i64 0) ∧ wz.cell? ⟨k, 1, none⟩ = some (.int .i64 0) ∧ wz.cell? ⟨k, 2, none⟩ = some (.int .i64 0) ∧ wz.cell? ⟨k, 3, none⟩ = some (.int .i64 0) ∧ wz.cell? ⟨k, 4, none⟩ = some (.int .i64 0) ∧ wz.cell? ⟨k, 5, none⟩ = some (.bool false)) := ⟨BZ.out.cell 0, BZ.out.cell 1, BZ.out.cell 2, BZ.out.cell 3, BZ.out.cell 4, BZ.out.cell 5⟩
    refine bodyPost_ret (by simp [results, Try.results26, asAddr, go_sem, z0, z1, z2, z3, z4, z5]; rfl) rfl ?_
    exact ⟨rfl, hbz.out⟩
set_option maxHeartbeats 4000000 in
theorem mine_calls (w : World) (g : Nat) (gl : Option Nat) (b : Bk) (h : AtB w g gl b) (id owner : Int) : Calls Try.prog 46 #[.pointer (some ⟨g, 0, none⟩), .int .i64 id, .int .i64 owner] w (Told w (.tuple #[.int .i64 (b.mine id owner).1, .int .i64 (b.mine id owner).2])) := by
  have HAt := Lib.hid (fun wx (hb : Below w.heap.size w wx) => at_calls wx g gl b (h.below hb) id)
  by_cases hi : Bk.ix b.l id < b.l.length
  · rw [at_in hi] at HAt
    obtain ⟨A, c, hB, hO⟩ := h.box
    have HB := Lib.hid hB
    have HOw := Lib.hid (hO.orow rfl).2.2
    obtain ⟨n, hn⟩ : ∃ n, Hid (b.l.length = n) := ⟨_, Lib.hid rfl⟩
    have HE : Hid (b.mine id owner = if (b.l.getD (Bk.ix b.l id) ord0).owner = owner then ((Bk.ix b.l id : Int), 0) else (0, 80)) := Lib.hid (by unfold Bk.mine; rw [if_pos hi])
    obtain ⟨i, hie⟩ : ∃ i, Hid (Bk.ix b.l id = i) := ⟨_, Lib.hid rfl⟩
    have hi2 := hi
    rw [hn.out, hie.out] at hi2
    rw [hie.out] at HAt HE
    have hL : Hid (i < b.l.length) := Lib.hid (by rw [hn.out]; exact hi2)
    obtain ⟨bb, o, rfl⟩ : ∃ bb o, A = some ⟨bb, o, none⟩ := by
      obtain ⟨bb, o, e, _⟩ := HOw.out.cells hL.out
      exact ⟨bb, o, e⟩
    have HC := Lib.hid (fun wx hh => ORow.six HOw.out hL.out (w' := wx) hh)
    rw [hn.out] at HB
    have i0 : (0 : Int) ≤ (i : Int) := by omega
    have hiI : (i : Int) < (n : Int) := by omega
    generalize b.l.getD i ord0 = q at HC HE
    obtain ⟨qi, qo, qp, qa, qpl, qb⟩ := q
    simp only at HC HE
    clear h hB hO hi hi2
    by_cases ho : qo = owner
    · rw [HE.out, if_pos ho]
      subst ho
      have hne : (qo != qo) = false := by simp
      go_enter Try.func46, Try.ntmps46
      go_upto_region 4 with (go_at_call 43; (with_reducible refine (HAt.out _ (Below.refl _ _)).mono ?_); rintro e w1 ⟨rfl, hh⟩; have hb1 := Lib.hid hh; clear hh)
      have BG := Lib.hid (HB.out.below hb1.out HB.out.lt)
      have x0 := BG.out.cell 0
      simp at x0
      obtain ⟨c0, c1, c2, c3, c4, c5⟩ := HC.out w1 hb1.out
      go_wp2
      refine bodyPost_ret (by simp [results, Try.results46, asAddr, go_sem]; rfl) rfl ?_
      exact ⟨rfl, hb1.out⟩
    · rw [HE.out, if_neg ho]
      have hne : (qo != owner) = true := by simpa using ho
      go_enter Try.func46, Try.ntmps46
      go_upto_region 4 with (go_at_call 43; (with_reducible refine (HAt.out _ (Below.refl _ _)).mono ?_); rintro e w1 ⟨rfl, hh⟩; have hb1 := Lib.hid hh; clear hh)
      have BG := Lib.hid (HB.out.below hb1.out HB.out.lt)
      have x0 := BG.out.cell 0
      simp at x0
      obtain ⟨c0, c1, c2, c3, c4, c5⟩ := HC.out w1 hb1.out
      go_wp2
      refine bodyPost_ret (by simp [results, Try.results46, asAddr, go_sem]; rfl) rfl ?_
      exact ⟨rfl, hb1.out⟩
  · rw [at_out hi] at HAt
    have hm : b.mine id owner = (0, 3) := by unfold Bk.mine; rw [if_neg hi]
    rw [hm]
    clear h hi hm
    go_enter Try.func46, Try.ntmps46
    go_upto_region 4 with (go_at_call 43; (with_reducible refine (HAt.out _ (Below.refl _ _)).mono ?_); rintro e w1 ⟨rfl, hh⟩; have hb1 := Lib.hid hh; clear hh)
    go_wp2
    refine bodyPost_ret (by simp [results, Try.results46, asAddr, go_sem]; rfl) rfl ?_
    exact ⟨rfl, hb1.out⟩
end Go.Proofs.Ytilbhnloelgpdaa
