/- The program's Cross. -/
import Derived.Test.YtilbhnloelgpdaaOCx
namespace Go.Proofs.Ytilbhnloelgpdaa
open Go.RowKit
set_option linter.unusedVariables false
set_option linter.unusedSimpArgs false
set_option maxHeartbeats 8000000 in
set_option maxRecDepth 100000 in
theorem cross_calls (w : World) (A : Option Addr) (L : List Ord) (c : Nat) (h : ORow w A L) :
    Calls Try.prog 14 #[.slice A L.length c] w (Told w (.tuple #[.int .i64 (Ca.cross L).1, .int .i64 (Ca.cross L).2])) := by
  have HC := Lib.hid (rights_calls w A L c h)
  have HE := Lib.hid (Ca.fx_all L)
  have hfew := Ca.rights_few L
  have HAm := Lib.hid (Ca.rights_amount (l := L))
  obtain ⟨T, hT⟩ : ∃ T, Hid (Ca.cross L = T) := ⟨_, Lib.hid rfl⟩
  rw [hT.out] at HE ⊢
  generalize Ca.rights L = R at HC HE hfew HAm
  obtain ⟨m, hm⟩ : ∃ m, Hid (R.length = m) := ⟨_, Lib.hid rfl⟩
  rw [hm.out] at HE hfew
  obtain ⟨n0, hn0⟩ : ∃ n0, Hid (L.length = n0) := ⟨_, Lib.hid rfl⟩
  rw [hn0.out] at HC ⊢
  clear h
  go_enter Try.func14, Try.ntmps14
  go_upto_region 2 with (go_at_call 36; (with_reducible refine HC.out.mono ?_); rintro e w1 ⟨A1, c1, rfl, hz1, hb1⟩; rw [hm.out] at hz1 ⊢; have HZ := Lib.hid hz1; have HB := Lib.hid hb1; clear hz1 hb1)
  have hO : Hid (ORow w1 A1 R) := Lib.hid (HZ.out.orow hm.out).2
  go_wp2
  go_loopg [2, 3, 15] (m + 1) (fun gk s2 s3 s15 wr => ∃ i : Nat, gk = m + 1 - i ∧ i ≤ m ∧ s15 = .int .i64 (i : Int) ∧ s2 = .int .i64 (Ca.fx R i).1 ∧ s3 = .int .i64 (Ca.fx R i).2 ∧ Hid (Below w1.heap.size w1 wr))
  case atStart => exact ⟨0, rfl, Nat.zero_le _, rfl, by rw [Ca.fx_zero R], by rw [Ca.fx_zero R], Lib.hid (Below.refl _ _)⟩
  case round =>
    obtain ⟨i, rfl, hi, rfl, rfl, rfl, hb⟩ := hrel
    have i0 : (0 : Int) ≤ (i : Int) := by omega
    by_cases hlt : i < m
    · have hltI : (i : Int) < (m : Int) := by omega
      have hlL : Hid (i < R.length) := Lib.hid (by rw [hm.out]; exact hlt)
      obtain ⟨b, o, rfl⟩ : ∃ b o, A1 = some ⟨b, o, none⟩ := by
        obtain ⟨b, o, e, _⟩ := hO.out.cells hlL.out
        exact ⟨b, o, e⟩
      have HCe := Lib.hid (fun k (hk : k < R.length) wx hh => ORow.six hO.out hk (w' := wx) hh)
      have HCi := Lib.hid (HCe.out i hlL.out)
      have hNx := Lib.hid (Ca.fx_next R hlL.out)
      have HM := Lib.hid (show m + 1 - (i + 1) < m + 1 - i by omega)
      obtain ⟨c0, c1', c2, c3, c4, c5⟩ := HCi.out wr hb.out
      generalize R.getD i ord0 = q at c0 c1' c2 c3 c4 c5 hNx
      obtain ⟨qi, qo, qp, qa, qpl, qb⟩ := q
      unfold Ca.crossStep at hNx
      simp only at c0 c1' c2 c3 c4 c5 hNx
      go_upto_region 5 with (fail)
      have hbA : Hid (Below w1.heap.size w1 (wr.alloc (.cells #[.int .i64 qi, .int .i64 qo, .int .i64 qp, .int .i64 qa, .int .i64 qpl, .bool qb] 33))) := Lib.hid (hb.out.alloc hb.out.size _)
      have BA := Lib.hid (Blk.new wr 33 #[.int .i64 qi, .int .i64 qo, .int .i64 qp, .int .i64 qa, .int .i64 qpl, .bool qb])
      obtain ⟨g, hg⟩ : ∃ g, Hid (wr.heap.size = g) := ⟨_, Lib.hid rfl⟩
      rw [hg.out] at BA ⊢
      clear c0 c1' c2 c3 c4 c5
      generalize World.alloc wr _ = wy at hbA BA ⊢
      have HG : Hid (∀ wx, Below wy.heap.size wy wx → wx.cell? ⟨g, 2, none⟩ = some (.int .i64 qp)) := Lib.hid fun wx hh => (BA.out.below hh BA.out.lt).cell 2
      go_wp2
      go_loopg [6, 7, 21] (m + 1) (fun gk s6 s7 s21 wi => ∃ j : Nat, gk = m + 1 - j ∧ j ≤ m ∧ s21 = .int .i64 (j : Int) ∧ s6 = .int .i64 (Ca.bx R qp j) ∧ s7 = .int .i64 (Ca.sx R qp j) ∧ Hid (Below wy.heap.size wy wi))
      case atStart => exact ⟨0, rfl, Nat.zero_le _, rfl, by rw [(Ca.bx_zero R qp).1], by rw [(Ca.bx_zero R qp).2], Lib.hid (Below.refl _ _)⟩
      case round =>
        obtain ⟨j, rfl, hj, rfl, rfl, rfl, hbi⟩ := hrel
        have j0 : (0 : Int) ≤ (j : Int) := by omega
        obtain ⟨u0, u1, d0, d1⟩ := Ca.bx_bound HAm.out qp j
        by_cases hjt : j < m
        · have hjI : (j : Int) < (m : Int) := by omega
          have hjL : Hid (j < R.length) := Lib.hid (by rw [hm.out]; exact hjt)
          have hB := Ca.bx_next R qp hjL.out
          have hS := Ca.sx_next R qp hjL.out
          have HMj := Lib.hid (show m + 1 - (j + 1) < m + 1 - j by omega)
          have hbw : Hid (Below w1.heap.size w1 wr) := Lib.hid (below_next hbA.out hbi.out)
          obtain ⟨c0, c1', c2, c3, c4, c5⟩ := HCe.out j hjL.out wr hbw.out
          have hg2 := HG.out wr hbi.out
          have hbj0 : Hid (∀ o, Below wy.heap.size wy (wr.alloc o)) := Lib.hid fun o => hbi.out.alloc hbi.out.size _
          obtain ⟨a0, a1⟩ : 1 ≤ (R.getD j ord0).amount ∧ (R.getD j ord0).amount ≤ 1048576 := HAm.out _ (by rw [List.getD_eq_getElem?_getD, List.getElem?_eq_getElem hjL.out]; exact List.getElem_mem hjL.out)
          generalize R.getD j ord0 = z at c0 c1' c2 c3 c4 c5 hB hS a0 a1
          obtain ⟨zi, zo, zp, za, zpl, zb⟩ := z
          simp only at c0 c1' c2 c3 c4 c5 hB hS a0 a1
          generalize Ca.bx R qp j = U at hB u0 u1 ⊢
          generalize Ca.sx R qp j = D at hS d0 d1 ⊢
          have qU : IntKind.i64.wrap (U + za) = U + za := by rw [IntKind.wrap_i64]; omega
          have qD : IntKind.i64.wrap (D + za) = D + za := by rw [IntKind.wrap_i64]; omega
          go_upto_region 9 with (fail)
          have BZ := Lib.hid (Blk.new wr 33 #[.int .i64 zi, .int .i64 zo, .int .i64 zp, .int .i64 za, .int .i64 zpl, .bool zb])
          have hbj := Lib.hid (hbj0.out (.cells #[.int .i64 zi, .int .i64 zo, .int .i64 zp, .int .i64 za, .int .i64 zpl, .bool zb] 33))
          obtain ⟨g2, hg2'⟩ : ∃ g2, Hid (wr.heap.size = g2) := ⟨_, Lib.hid rfl⟩
          rw [hg2'.out] at BZ ⊢
          clear c0 c1' c2 c3 c4 c5 hg2 hbj0
          generalize World.alloc wr _ = wz at hbj BZ ⊢
          have hgq := HG.out wz hbj.out
          obtain ⟨c2, c3, c5⟩ : wz.cell? ⟨g2, 2, none⟩ = some (.int .i64 zp) ∧ wz.cell? ⟨g2, 3, none⟩ = some (.int .i64 za) ∧ wz.cell? ⟨g2, 5, none⟩ = some (.bool zb) := ⟨BZ.out.cell 2, BZ.out.cell 3, BZ.out.cell 5⟩
          clear u0 u1 d0 d1 a0 a1
          cases zb with
          | true =>
            have hS' : Ca.sx R qp (j + 1) = D := by rw [hS, if_neg (by simp)]; omega
            by_cases hp : qp ≤ zp
            · have hB' : Ca.bx R qp (j + 1) = U + za := by rw [hB, if_pos ⟨rfl, hp⟩]
              go_wp2
              go_roundg (m + 1 - (j + 1))
              case measure => exact HMj.out
              case rel => exact ⟨j + 1, rfl, by omega, by go_num, by rw [hB'], by rw [hS'], hbj⟩
            · have hB' : Ca.bx R qp (j + 1) = U := by rw [hB, if_neg fun hh => hp hh.2]; omega
              go_wp2
              go_roundg (m + 1 - (j + 1))
              case measure => exact HMj.out
              case rel => exact ⟨j + 1, rfl, by omega, by go_num, by rw [hB'], by rw [hS'], hbj⟩
          | false =>
            have hB' : Ca.bx R qp (j + 1) = U := by rw [hB, if_neg (by simp)]; omega
            by_cases hp : zp ≤ qp
            · have hS' : Ca.sx R qp (j + 1) = D + za := by rw [hS, if_pos ⟨rfl, hp⟩]
              go_wp2
              go_roundg (m + 1 - (j + 1))
              case measure => exact HMj.out
              case rel => exact ⟨j + 1, rfl, by omega, by go_num, by rw [hB'], by rw [hS'], hbj⟩
            · have hS' : Ca.sx R qp (j + 1) = D := by rw [hS, if_neg fun hh => hp hh.2]; omega
              go_wp2
              go_roundg (m + 1 - (j + 1))
              case measure => exact HMj.out
              case rel => exact ⟨j + 1, rfl, by omega, by go_num, by rw [hB'], by rw [hS'], hbj⟩
        · obtain rfl : m = j := by omega
          have hmin := Ca.bx_all R qp
          rw [hm.out] at hmin
          have hbw : Hid (Below w1.heap.size w1 wr) := Lib.hid (below_next hbA.out hbi.out)
          have hg2 := HG.out wr hbi.out
          have hN := hNx.out
          clear hNx
          generalize Ca.bx R qp m = U at hmin u0 u1 ⊢
          generalize Ca.sx R qp m = D at hmin d0 d1 ⊢
          generalize Ca.traded R qp = t at hmin hN
          generalize Ca.fx R i = acc at hN ⊢
          obtain ⟨P, B⟩ := acc
          simp only at hN ⊢
          by_cases hUD : U ≤ D
          · rw [Int.min_eq_left hUD] at hmin
            subst hmin
            go_upto_region 15 with (fail)
            clear u0 u1 d0 d1
            by_cases h1 : B < U
            · rw [if_pos (.inl h1)] at hN
              go_wp2
              go_roundg (m + 1 - (i + 1))
              case measure => exact HM.out
              case rel => exact ⟨i + 1, rfl, by omega, by go_num, by (first | (rw [hN]; done) | simp [hN, h2]), by (first | (rw [hN]; done) | simp [hN, h2]), hbw⟩
            · by_cases h2 : U = B
              · have h2B : (U == B) = true := by simpa using h2
                by_cases h3 : 0 < U
                · by_cases h4 : qp < P
                  · rw [if_pos (.inr ⟨h2, h3, h4⟩)] at hN
                    go_wp2
                    go_roundg (m + 1 - (i + 1))
                    case measure => exact HM.out
                    case rel => exact ⟨i + 1, rfl, by omega, by go_num, by (first | (rw [hN]; done) | simp [hN, h2]), by (first | (rw [hN]; done) | simp [hN, h2]), hbw⟩
                  · rw [if_neg (by omega)] at hN
                    go_wp2
                    go_roundg (m + 1 - (i + 1))
                    case measure => exact HM.out
                    case rel => exact ⟨i + 1, rfl, by omega, by go_num, by (first | (rw [hN]; done) | simp [hN, h2]), by (first | (rw [hN]; done) | simp [hN, h2]), hbw⟩
                · rw [if_neg (by omega)] at hN
                  go_wp2
                  go_roundg (m + 1 - (i + 1))
                  case measure => exact HM.out
                  case rel => exact ⟨i + 1, rfl, by omega, by go_num, by (first | (rw [hN]; done) | simp [hN, h2]), by (first | (rw [hN]; done) | simp [hN, h2]), hbw⟩
              · rw [if_neg (by omega)] at hN
                have h2B : (U == B) = false := by simpa using h2
                go_wp2
                go_roundg (m + 1 - (i + 1))
                case measure => exact HM.out
                case rel => exact ⟨i + 1, rfl, by omega, by go_num, by (first | (rw [hN]; done) | simp [hN, h2]), by (first | (rw [hN]; done) | simp [hN, h2]), hbw⟩
          · rw [Int.min_eq_right (by omega)] at hmin
            subst hmin
            go_upto_region 15 with (fail)
            clear u0 u1 d0 d1
            by_cases h1 : B < D
            · rw [if_pos (.inl h1)] at hN
              go_wp2
              go_roundg (m + 1 - (i + 1))
              case measure => exact HM.out
              case rel => exact ⟨i + 1, rfl, by omega, by go_num, by (first | (rw [hN]; done) | simp [hN, h2]), by (first | (rw [hN]; done) | simp [hN, h2]), hbw⟩
            · by_cases h2 : D = B
              · have h2B : (D == B) = true := by simpa using h2
                by_cases h3 : 0 < D
                · by_cases h4 : qp < P
                  · rw [if_pos (.inr ⟨h2, h3, h4⟩)] at hN
                    go_wp2
                    go_roundg (m + 1 - (i + 1))
                    case measure => exact HM.out
                    case rel => exact ⟨i + 1, rfl, by omega, by go_num, by (first | (rw [hN]; done) | simp [hN, h2]), by (first | (rw [hN]; done) | simp [hN, h2]), hbw⟩
                  · rw [if_neg (by omega)] at hN
                    go_wp2
                    go_roundg (m + 1 - (i + 1))
                    case measure => exact HM.out
                    case rel => exact ⟨i + 1, rfl, by omega, by go_num, by (first | (rw [hN]; done) | simp [hN, h2]), by (first | (rw [hN]; done) | simp [hN, h2]), hbw⟩
                · rw [if_neg (by omega)] at hN
                  go_wp2
                  go_roundg (m + 1 - (i + 1))
                  case measure => exact HM.out
                  case rel => exact ⟨i + 1, rfl, by omega, by go_num, by (first | (rw [hN]; done) | simp [hN, h2]), by (first | (rw [hN]; done) | simp [hN, h2]), hbw⟩
              · rw [if_neg (by omega)] at hN
                have h2B : (D == B) = false := by simpa using h2
                go_wp2
                go_roundg (m + 1 - (i + 1))
                case measure => exact HM.out
                case rel => exact ⟨i + 1, rfl, by omega, by go_num, by (first | (rw [hN]; done) | simp [hN, h2]), by (first | (rw [hN]; done) | simp [hN, h2]), hbw⟩
    · obtain rfl : m = i := by omega
      go_wp2
      refine bodyPost_ret (by simp [results, Try.results14, asAddr, go_sem]; rfl) rfl ?_
      exact ⟨by rw [HE.out], below_next HB.out hb.out⟩
end Go.Proofs.Ytilbhnloelgpdaa
