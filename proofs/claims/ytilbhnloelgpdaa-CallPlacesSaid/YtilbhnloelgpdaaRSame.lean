/- The reference's Same and SameFills at lists that are the same. -/
import Derived.Test.YtilbhnloelgpdaaOrdr
namespace Go.Proofs.Ytilbhnloelgpdaa
open Go.RowKit
set_option linter.unusedVariables false
set_option linter.unusedSimpArgs false
theorem eq_order (w : World) (a b c d e : Int) (f : Bool) : (Op.equalIn 10000 33 (.agg #[.int .i64 a, .int .i64 b, .int .i64 c, .int .i64 d, .int .i64 e, .bool f]) (.agg #[.int .i64 a, .int .i64 b, .int .i64 c, .int .i64 d, .int .i64 e, .bool f])).run Try.prog w = .ok true w := by
  simp [Op.eqFields, part, go_sem, Try.underlying33, Try.isAgg3, Try.isAgg4]
set_option maxHeartbeats 4000000 in
theorem samefills_calls (w : World) (A B : Option Addr) (L : List Fil) (c d : Nat) (hA : FRow w A L) (hB : FRow w B L) (hl : L.length ≤ 4000000000000) :
    Calls Try.prog 17 #[.slice A L.length c, .slice B L.length d] w (Told w (.bool true)) := by
  have HA := Lib.hid hA
  have HB := Lib.hid hB
  obtain ⟨m, hm⟩ : ∃ m, Hid (L.length = m) := ⟨_, Lib.hid rfl⟩
  rw [hm.out] at hl ⊢
  have hmm : ((m : Int) != (m : Int)) = false := by simp
  clear hA hB
  go_enter Try.func17, Try.ntmps17
  go_upto_region 4 with (fail)
  go_loopg [5] (m + 1) (fun gk s5 wr => ∃ i : Nat, gk = m + 1 - i ∧ i ≤ m ∧ s5 = .int .i64 (i : Int) ∧ Hid (Below w.heap.size w wr))
  case atStart => exact ⟨0, rfl, Nat.zero_le _, rfl, Lib.hid (Below.refl _ _)⟩
  case round =>
    obtain ⟨i, rfl, hi, rfl, hb⟩ := hrel
    have i0 : (0 : Int) ≤ (i : Int) := by omega
    by_cases hil : i < m
    · have hiI : (i : Int) < (m : Int) := by omega
      have hiL : Hid (i < L.length) := Lib.hid (by rw [hm.out]; exact hil)
      obtain ⟨b, o, rfl⟩ : ∃ b o, A = some ⟨b, o, none⟩ := by
        obtain ⟨b, o, e, _⟩ := HA.out.cells hiL.out
        exact ⟨b, o, e⟩
      obtain ⟨b2, o2, rfl⟩ : ∃ b o, B = some ⟨b, o, none⟩ := by
        obtain ⟨b, o, e, _⟩ := HB.out.cells hiL.out
        exact ⟨b, o, e⟩
      obtain ⟨c0, c1, c2⟩ := FRow.three HA.out hiL.out hb.out
      obtain ⟨d0, d1, d2⟩ := FRow.three HB.out hiL.out hb.out
      generalize L.getD i fil0 = f at c0 c1 c2 d0 d1 d2
      obtain ⟨fi, fo, fa⟩ := f
      simp only at c0 c1 c2 d0 d1 d2
      have HM := Lib.hid (show m + 1 - (i + 1) < m + 1 - i by omega)
      have hq := fun wx => eq_fill wx fi fo fa
      go_wp2_with (fail)
      go_quiet (fail)
      go_wp2
      go_roundg (m + 1 - (i + 1))
      case measure => exact HM.out
      case rel => exact ⟨i + 1, rfl, by omega, by first | rfl | go_num, Lib.hid (below_draw hb.out _)⟩
    · obtain rfl : m = i := by omega
      go_wp2
      refine bodyPost_ret (by simp [results, Try.results17, asAddr, go_sem]; rfl) rfl ?_
      exact ⟨rfl, hb.out⟩
set_option maxHeartbeats 4000000 in
theorem same_calls (w : World) (A B : Option Addr) (L : List Ord) (c d : Nat) (hA : ORow w A L) (hB : ORow w B L) (hl : L.length ≤ 4000000000000) :
    Calls Try.prog 19 #[.slice A L.length c, .slice B L.length d] w (Told w (.bool true)) := by
  have HA := Lib.hid hA
  have HB := Lib.hid hB
  obtain ⟨m, hm⟩ : ∃ m, Hid (L.length = m) := ⟨_, Lib.hid rfl⟩
  rw [hm.out] at hl ⊢
  have hmm : ((m : Int) != (m : Int)) = false := by simp
  clear hA hB
  go_enter Try.func19, Try.ntmps19
  go_upto_region 4 with (fail)
  go_loopg [5] (m + 1) (fun gk s5 wr => ∃ i : Nat, gk = m + 1 - i ∧ i ≤ m ∧ s5 = .int .i64 (i : Int) ∧ Hid (Below w.heap.size w wr))
  case atStart => exact ⟨0, rfl, Nat.zero_le _, rfl, Lib.hid (Below.refl _ _)⟩
  case round =>
    obtain ⟨i, rfl, hi, rfl, hb⟩ := hrel
    have i0 : (0 : Int) ≤ (i : Int) := by omega
    by_cases hil : i < m
    · have hiI : (i : Int) < (m : Int) := by omega
      have hiL : Hid (i < L.length) := Lib.hid (by rw [hm.out]; exact hil)
      obtain ⟨b, o, rfl⟩ : ∃ b o, A = some ⟨b, o, none⟩ := by
        obtain ⟨b, o, e, _⟩ := HA.out.cells hiL.out
        exact ⟨b, o, e⟩
      obtain ⟨b2, o2, rfl⟩ : ∃ b o, B = some ⟨b, o, none⟩ := by
        obtain ⟨b, o, e, _⟩ := HB.out.cells hiL.out
        exact ⟨b, o, e⟩
      obtain ⟨c0, c1, c2, c3, c4, c5⟩ := ORow.six HA.out hiL.out hb.out
      obtain ⟨d0, d1, d2, d3, d4, d5⟩ := ORow.six HB.out hiL.out hb.out
      generalize L.getD i ord0 = q at c0 c1 c2 c3 c4 c5 d0 d1 d2 d3 d4 d5
      obtain ⟨qi, qo, qp, qa, qpl, qb⟩ := q
      simp only at c0 c1 c2 c3 c4 c5 d0 d1 d2 d3 d4 d5
      have HM := Lib.hid (show m + 1 - (i + 1) < m + 1 - i by omega)
      have hq := fun wx => eq_order wx qi qo qp qa qpl qb
      go_wp2_with (fail)
      go_quiet (fail)
      go_wp2
      go_roundg (m + 1 - (i + 1))
      case measure => exact HM.out
      case rel => exact ⟨i + 1, rfl, by omega, by first | rfl | go_num, Lib.hid (below_draw hb.out _)⟩
    · obtain rfl : m = i := by omega
      go_wp2
      refine bodyPost_ret (by simp [results, Try.results19, asAddr, go_sem]; rfl) rfl ?_
      exact ⟨rfl, hb.out⟩
set_option maxHeartbeats 2000000 in
theorem before_calls (w : World) (x y : Ord) : Calls Try.prog 40 #[oval x, oval y] w (Told w (.bool (fst x.buys x y))) := by
  obtain ⟨xi, xo, xp, xa, xpl, xb⟩ := x
  obtain ⟨yi, yo, yp, ya, ypl, yb⟩ := y
  have hE : Hid (fst xb ⟨xi, xo, xp, xa, xpl, xb⟩ ⟨yi, yo, yp, ya, ypl, yb⟩ = if xp = yp then decide (xpl < ypl) else (decide (yp < xp) == xb)) := Lib.hid (by
    unfold fst
    simp only
    by_cases h : xp = yp
    · rw [if_pos h, if_pos h]
    · rw [if_neg h, if_neg h]
      cases xb
      · by_cases h2 : xp < yp <;> by_cases h3 : yp < xp <;> simp [h2, h3] <;> omega
      · by_cases h3 : yp < xp <;> simp [h3])
  show Calls Try.prog 40 #[.agg #[.int .i64 xi, .int .i64 xo, .int .i64 xp, .int .i64 xa, .int .i64 xpl, .bool xb], .agg #[.int .i64 yi, .int .i64 yo, .int .i64 yp, .int .i64 ya, .int .i64 ypl, .bool yb]] w (Told w (.bool (fst xb ⟨xi, xo, xp, xa, xpl, xb⟩ ⟨yi, yo, yp, ya, ypl, yb⟩)))
  rw [hE.out]
  have hb0 : Hid (Below w.heap.size w ((w.alloc (.cells #[.int .i64 xi, .int .i64 xo, .int .i64 xp, .int .i64 xa, .int .i64 xpl, .bool xb] 33)).alloc (.cells #[.int .i64 yi, .int .i64 yo, .int .i64 yp, .int .i64 ya, .int .i64 ypl, .bool yb] 33))) := Lib.hid (((Below.refl _ _).alloc (Nat.le_refl _) _).alloc (by simp) _)
  have BX := Lib.hid ((Blk.new w 33 #[.int .i64 xi, .int .i64 xo, .int .i64 xp, .int .i64 xa, .int .i64 xpl, .bool xb]).alloc (.cells #[.int .i64 yi, .int .i64 yo, .int .i64 yp, .int .i64 ya, .int .i64 ypl, .bool yb] 33))
  have BY : Hid (Blk ((w.alloc (.cells #[.int .i64 xi, .int .i64 xo, .int .i64 xp, .int .i64 xa, .int .i64 xpl, .bool xb] 33)).alloc (.cells #[.int .i64 yi, .int .i64 yo, .int .i64 yp, .int .i64 ya, .int .i64 ypl, .bool yb] 33)) (w.heap.size + 1) 33 #[.int .i64 yi, .int .i64 yo, .int .i64 yp, .int .i64 ya, .int .i64 ypl, .bool yb]) := Lib.hid (by
    have h := Blk.new (w.alloc (.cells #[.int .i64 xi, .int .i64 xo, .int .i64 xp, .int .i64 xa, .int .i64 xpl, .bool xb] 33)) 33 #[.int .i64 yi, .int .i64 yo, .int .i64 yp, .int .i64 ya, .int .i64 ypl, .bool yb]
    rw [show (w.alloc (.cells #[.int .i64 xi, .int .i64 xo, .int .i64 xp, .int .i64 xa, .int .i64 xpl, .bool xb] 33)).heap.size = w.heap.size + 1 from by simp] at h
    exact h)
  by_cases h : xp = yp
  · rw [if_pos h]
    have hne : (xp != yp) = false := by simpa using h
    clear h
    go_enter Try.func40, Try.ntmps40
    go_upto_region 1 with (fail)
    obtain ⟨g, hg⟩ : ∃ g, w.heap.size = g := ⟨_, rfl⟩
    rw [hg] at BX BY ⊢
    clear hg
    generalize World.alloc (World.alloc w _) _ = wy at hb0 BX BY ⊢
    obtain ⟨e2, e4, e5⟩ : wy.cell? ⟨g, 2, none⟩ = some (.int .i64 xp) ∧ wy.cell? ⟨g, 4, none⟩ = some (.int .i64 xpl) ∧ wy.cell? ⟨g, 5, none⟩ = some (.bool xb) := ⟨BX.out.cell 2, BX.out.cell 4, BX.out.cell 5⟩
    obtain ⟨k2, k4⟩ : wy.cell? ⟨g + 1, 2, none⟩ = some (.int .i64 yp) ∧ wy.cell? ⟨g + 1, 4, none⟩ = some (.int .i64 ypl) := ⟨BY.out.cell 2, BY.out.cell 4⟩
    go_wp2
    (try simp only [Exit.inBlock, Exit.then])
    refine bodyPost_ret (by simp [results, Try.results40, asAddr, go_sem]; rfl) rfl (told_bool ?_ hb0.out)
    rfl
  · rw [if_neg h]
    have hne : (xp != yp) = true := by simpa using h
    clear h
    go_enter Try.func40, Try.ntmps40
    go_upto_region 1 with (fail)
    obtain ⟨g, hg⟩ : ∃ g, w.heap.size = g := ⟨_, rfl⟩
    rw [hg] at BX BY ⊢
    clear hg
    generalize World.alloc (World.alloc w _) _ = wy at hb0 BX BY ⊢
    obtain ⟨e2, e4, e5⟩ : wy.cell? ⟨g, 2, none⟩ = some (.int .i64 xp) ∧ wy.cell? ⟨g, 4, none⟩ = some (.int .i64 xpl) ∧ wy.cell? ⟨g, 5, none⟩ = some (.bool xb) := ⟨BX.out.cell 2, BX.out.cell 4, BX.out.cell 5⟩
    obtain ⟨k2, k4⟩ : wy.cell? ⟨g + 1, 2, none⟩ = some (.int .i64 yp) ∧ wy.cell? ⟨g + 1, 4, none⟩ = some (.int .i64 ypl) := ⟨BY.out.cell 2, BY.out.cell 4⟩
    go_wp2
    (try simp only [Exit.inBlock, Exit.then])
    refine bodyPost_ret (by simp [results, Try.results40, asAddr, go_sem]; rfl) rfl (told_bool ?_ hb0.out)
    rfl
end Go.Proofs.Ytilbhnloelgpdaa
