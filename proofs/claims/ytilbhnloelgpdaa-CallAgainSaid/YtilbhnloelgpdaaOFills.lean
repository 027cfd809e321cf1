/- The program's Fills. -/
import Derived.Test.YtilbhnloelgpdaaFil
namespace Go.Proofs.Ytilbhnloelgpdaa
open Go.RowKit
set_option linter.unusedVariables false
set_option linter.unusedSimpArgs false
theorem Mine.base {w0 w1 w : World} {sz n : Nat} {v : Value} {xs : List Value} (h : Mine w1 w sz v n xs) (hb : w0.heap.size ≤ w1.heap.size) : Mine w0 w sz v n xs := by
  obtain ⟨b, h1, h2⟩ := h
  exact ⟨b, h1, fun g hg => Nat.le_trans hb (h2 g hg)⟩
namespace Ca
def fillsTo (R : List Ord) (p n : Int) : Nat → List Fil
  | 0 => []
  | t + 1 => fillsTo R p n t ++ fillGo n (isort (t == 0) (sideOf (t == 0) p R))
theorem fillsTo_two (L : List Ord) (p n : Int) : fillsTo (rights L) p n 2 = fills L p n := by
  simp only [fillsTo, fills]
  rfl
end Ca
theorem info_fill : (Try.prog.info? 44).map (fun i => (i.zero, i.size, i.bytes)) = some (some (.agg #[.int .i64 0, .int .i64 0, .int .i64 0]), 3, 24) := by kernel_rfl
set_option maxHeartbeats 16000000 in
set_option maxRecDepth 100000 in
theorem fills_calls (w : World) (A : Option Addr) (L : List Ord) (c : Nat) (p amt : Int) (h : ORow w A L) (hr : -9223372036854775808 ≤ amt ∧ amt ≤ 9223372036854775807) :
    Calls Try.prog 16 #[.slice A L.length c, .int .i64 p, .int .i64 amt] w (FLeft w (Ca.fills L p amt)) := by
  have HC := Lib.hid (rights_calls w A L c h)
  have HE := Lib.hid (Ca.fillsTo_two L p amt)
  have hfew := Lib.hid (Ca.rights_few L)
  obtain ⟨T, hT⟩ : ∃ T, Hid (Ca.fills L p amt = T) := ⟨_, Lib.hid rfl⟩
  rw [hT.out] at HE ⊢
  generalize Ca.rights L = R at HC HE hfew
  obtain ⟨r, hr1⟩ : ∃ r, Hid (R.length = r) := ⟨_, Lib.hid rfl⟩
  obtain ⟨n0, hn0⟩ : ∃ n0, Hid (L.length = n0) := ⟨_, Lib.hid rfl⟩
  rw [hn0.out] at HC ⊢
  rw [hr1.out] at hfew
  have Hr := Lib.hid hr
  obtain ⟨i1, hi1, hy0, hy1, hy2⟩ := info_parts info_order
  have HI1 := Lib.hid hi1
  have HY0 := Lib.hid hy0
  have HY1 := Lib.hid hy1
  have HY2 := Lib.hid hy2
  obtain ⟨j1, hj1, hz0, hz1, hz2⟩ := info_parts info_fill
  have HJ1 := Lib.hid hj1
  have HZ0 := Lib.hid hz0
  have HZ1 := Lib.hid hz1
  have HZ2 := Lib.hid hz2
  clear h hi1 hy0 hy1 hy2 hj1 hz0 hz1 hz2 hr
  go_enter Try.func16, Try.ntmps16
  go_upto_region 3 with (go_at_call 36; (with_reducible refine HC.out.mono ?_); rintro e w1 ⟨A1, c1, rfl, hz1, hb1⟩; rw [hr1.out] at hz1 ⊢; have HZr := Lib.hid hz1; have HB1 := Lib.hid hb1; clear hz1 hb1)
  have hO : Hid (ORow w1 A1 R) := Lib.hid (HZr.out.orow hr1.out).2
  go_upto_region 4 with (fail)
  have hb2 : Hid (Below w1.heap.size w1 (w1.alloc (.cells #[.bool true, .bool false] 4))) := Lib.hid ((Below.refl _ _).alloc (Nat.le_refl _) _)
  have BB := Lib.hid (Blk.new w1 4 #[.bool true, .bool false])
  obtain ⟨g, hg⟩ : ∃ g, Hid (w1.heap.size = g) := ⟨_, Lib.hid rfl⟩
  rw [hg.out] at BB ⊢
  generalize World.alloc w1 _ = w2 at hb2 BB ⊢
  go_loopg [7, 21] 3 (fun gk s7 s21 wr => ∃ (t : Nat) (A : Option Addr) (n c : Nat), gk = 3 - t ∧ t ≤ 2 ∧ s21 = .int .i64 (t : Int) ∧ s7 = .slice A n c ∧ Hid ((Ca.fillsTo R p amt t).length = n ∧ n ≤ 64 * t) ∧ Hid (Mine w2 wr 3 (.slice A n c) n (fcells (Ca.fillsTo R p amt t))) ∧ Hid (Below w2.heap.size w2 wr))
  case atStart => exact ⟨0, none, 0, 0, rfl, Nat.zero_le _, rfl, rfl, Lib.hid ⟨rfl, Nat.zero_le _⟩, Lib.hid (Mine.empty _ _ _ _), Lib.hid (Below.refl _ _)⟩
  case round =>
    obtain ⟨t, A, n, c, rfl, ht, rfl, rfl, hn, HM1, hb⟩ := hrel
    by_cases htl : t < 2
    · obtain ⟨wo, hwo⟩ : ∃ wo, wo = wr := ⟨_, rfl⟩
      subst hwo
      have htI : (t : Int) < 2 := by omega
      have t0 : (0 : Int) ≤ (t : Int) := by omega
      obtain ⟨sd, hsd⟩ : ∃ sd, Hid ((t == 0) = sd) := ⟨_, Lib.hid rfl⟩
      have hcell : wo.cell? ⟨g, t, none⟩ = some (.bool sd) := by
        rw [(BB.out.below hb.out BB.out.lt).cell t, ← hsd.out]
        rcases (show t = 0 ∨ t = 1 by omega) with e | e <;> rw [e] <;> rfl
      have HT1 : Hid (Ca.fillsTo R p amt (t + 1) = Ca.fillsTo R p amt t ++ Ca.fillGo amt (isort sd (Ca.sideOf sd p R))) := Lib.hid (by rw [← hsd.out]; rfl)
      have HMt := Lib.hid (show 3 - (t + 1) < 3 - t by omega)
      have hbw1 := Lib.hid (below_next hb2.out hb.out)
      generalize Ca.fillsTo R p amt t = outs at hn HM1 HT1
      go_upto_region 7 with (fail)
      clear hcell
      go_wp2
      go_loopg [10, 27] (r + 1) (fun gk s10 s27 wi => ∃ (i : Nat) (A2 : Option Addr) (n2 c2 : Nat), gk = r + 1 - i ∧ i ≤ r ∧ s27 = .int .i64 (i : Int) ∧ s10 = .slice A2 n2 c2 ∧ Hid ((Ca.sideOf sd p (R.take i)).length = n2 ∧ n2 ≤ i ∧ i ≤ 64) ∧ Hid (Mine wo wi 6 (.slice A2 n2 c2) n2 (ocells (Ca.sideOf sd p (R.take i)))) ∧ Hid (Below wo.heap.size wo wi))
      case atStart => exact ⟨0, none, 0, 0, rfl, Nat.zero_le _, rfl, rfl, Lib.hid ⟨by simp [Ca.sideOf], Nat.zero_le _, by omega⟩, Lib.hid (by rw [List.take_zero]; exact Mine.empty _ _ _ _), Lib.hid (Below.refl _ _)⟩
      case round =>
        obtain ⟨i, A2, n2, c2, rfl, hi, rfl, rfl, hn2, HM2, hbi⟩ := hrel
        have i0 : (0 : Int) ≤ (i : Int) := by omega
        by_cases hil : i < r
        · have hiI : (i : Int) < (r : Int) := by omega
          have hiL : Hid (i < R.length) := Lib.hid (by rw [hr1.out]; exact hil)
          obtain ⟨b, o, rfl⟩ : ∃ b o, A1 = some ⟨b, o, none⟩ := by
            obtain ⟨b, o, e, _⟩ := hO.out.cells hiL.out
            exact ⟨b, o, e⟩
          have HCi := Lib.hid (ORow.six hO.out hiL.out (below_next hbw1.out hbi.out))
          have hNx := Lib.hid (Ca.sideOf_next sd p R hiL.out)
          have HM := Lib.hid (show r + 1 - (i + 1) < r + 1 - i by omega)
          have hi64 := Lib.hid (show i + 1 ≤ 64 by have := hfew.out; omega)
          have hi65 := hi64.out
          generalize R.getD i ord0 = q at HCi hNx
          obtain ⟨qi, qo, qp, qa, qpl, qb⟩ := q
          obtain ⟨c0, c1', c2', c3, c4, c5⟩ := HCi.out
          simp only at c0 c1' c2' c3 c4 c5
          go_upto_region 10 with (fail)
          have hbx : Hid (Below wr.heap.size wr (wr.alloc (.cells #[.int .i64 qi, .int .i64 qo, .int .i64 qp, .int .i64 qa, .int .i64 qpl, .bool qb] 33))) := Lib.hid ((Below.refl _ _).alloc (Nat.le_refl _) _)
          have BA := Lib.hid (Blk.new wr 33 #[.int .i64 qi, .int .i64 qo, .int .i64 qp, .int .i64 qa, .int .i64 qpl, .bool qb])
          obtain ⟨g1, hg1⟩ : ∃ g1, Hid (wr.heap.size = g1) := ⟨_, Lib.hid rfl⟩
          rw [hg1.out] at BA ⊢
          clear c0 c1' c2' c3 c4 c5 HCi
          obtain ⟨wi, hwi⟩ : ∃ wi, wi = wr := ⟨_, rfl⟩
          subst hwi
          generalize World.alloc wi _ = wx at hbx BA ⊢
          obtain ⟨c0, c1', c2', c3, c4, c5⟩ : (wx.cell? ⟨g1, 0, none⟩ = some (.int .i64 qi) ∧ wx.cell? ⟨g1, 1, none⟩ = some (.int .i64 qo) ∧ wx.cell? ⟨g1, 2, none⟩ = some (.int .i64 qp) ∧ wx.cell? ⟨g1, 3, none⟩ = some (.int .i64 qa) ∧ wx.cell? ⟨g1, 4, none⟩ = some (.int .i64 qpl) ∧ wx.cell? ⟨g1, 5, none⟩ = some (.bool qb)) := ⟨BA.out.cell 0, BA.out.cell 1, BA.out.cell 2, BA.out.cell 3, BA.out.cell 4, BA.out.cell 5⟩
          cases sd with
          | true =>
            cases qb with
            | true =>
              by_cases hp : p ≤ qp
              · have hgd : Hid (Ca.good true p ⟨qi, qo, qp, qa, qpl, true⟩ = true) := Lib.hid (by simp [Ca.good, hp])
                have hN := hNx.out
                rw [if_pos (by rw [hgd.out])] at hN
                have HN := Lib.hid hN
                clear hN hNx
                have hA1 : Hid (n2 + 1 ≤ maxLen) := Lib.hid (by have := hn2.out; unfold maxLen; omega)
                have hA2 : Hid ((n2 + 1) * 48 ≤ 140737488355328) := Lib.hid (by have := hn2.out; omega)
                have hS1 : Hid (∀ wx : World, Src Try.prog 6 22 (.slice (some ⟨wx.heap.size, 0, none⟩) 1 1) 1 (ocell ⟨qi, qo, qp, qa, qpl, true⟩) (wx.alloc (.cells (ocell ⟨qi, qo, qp, qa, qpl, true⟩).toArray 33))) := Lib.hid fun wx => src_new Try.underlying22 wx _ _ 1 1 rfl (by simp [ocell, Value.oneCell'])
                clear hgd
                go_upto_region 11 with (fail)
                go_wp2_with (first
                  | (at_builtin; (refine wpList_append_mine rfl (.tmp 54) (.tmp 56) 22 22 rfl 33 i1 (.agg #[.int .i64 0, .int .i64 0, .int .i64 0, .int .i64 0, .int .i64 0, .bool false]) 48 Try.underlying22 HI1.out HY0.out HY1.out HY2.out rfl (by decide) rfl ((HM2.out.below hbx.out).alloc _) ((below_next hbi.out hbx.out).alloc (below_next hbi.out hbx.out).size _) _ 1 (ocell ⟨qi, qo, qp, qa, qpl, true⟩) rfl (hS1.out _) hA1.out hA2.out ?_); intro A3 c3 w3 hm3 hb3; have HM3 := Lib.hid hm3; have HB3 := Lib.hid hb3; clear hm3 hb3))
                go_roundg (r + 1 - (i + 1))
                case measure => exact HM.out
                case rel => exact ⟨i + 1, A3, n2 + 1, c3, rfl, by omega, by first | rfl | go_num, rfl, Lib.hid (by rw [HN.out, List.length_append]; have := hn2.out; have := hi64.out; simp only [List.length_cons, List.length_nil]; omega), Lib.hid (by rw [HN.out, ocells_append]; exact HM3.out), HB3⟩
              · have hgd : Hid (Ca.good true p ⟨qi, qo, qp, qa, qpl, true⟩ = false) := Lib.hid (by simp [Ca.good, hp])
                have hN := hNx.out
                rw [if_neg (by rw [hgd.out]; simp), List.append_nil] at hN
                have HN := Lib.hid hN
                clear hN hNx
                rw [← HN.out] at HM2 hn2
                clear hgd
                go_wp2
                go_roundg (r + 1 - (i + 1))
                case measure => exact HM.out
                case rel => exact ⟨i + 1, A2, n2, c2, rfl, by omega, by first | rfl | go_num, rfl, Lib.hid (by have := hn2.out; have := hi64.out; omega), Lib.hid (HM2.out.below hbx.out), Lib.hid (below_next hbi.out hbx.out)⟩
            | false =>
              have hgd : Hid (Ca.good true p ⟨qi, qo, qp, qa, qpl, false⟩ = false) := Lib.hid (by simp [Ca.good])
              have hN := hNx.out
              rw [if_neg (by rw [hgd.out]; simp), List.append_nil] at hN
              have HN := Lib.hid hN
              clear hN hNx
              rw [← HN.out] at HM2 hn2
              clear hgd
              go_wp2
              go_roundg (r + 1 - (i + 1))
              case measure => exact HM.out
              case rel => exact ⟨i + 1, A2, n2, c2, rfl, by omega, by first | rfl | go_num, rfl, Lib.hid (by have := hn2.out; have := hi64.out; omega), Lib.hid (HM2.out.below hbx.out), Lib.hid (below_next hbi.out hbx.out)⟩
          | false =>
            cases qb with
            | true =>
              have hgd : Hid (Ca.good false p ⟨qi, qo, qp, qa, qpl, true⟩ = false) := Lib.hid (by simp [Ca.good])
              have hN := hNx.out
              rw [if_neg (by rw [hgd.out]; simp), List.append_nil] at hN
              have HN := Lib.hid hN
              clear hN hNx
              rw [← HN.out] at HM2 hn2
              clear hgd
              go_wp2
              go_roundg (r + 1 - (i + 1))
              case measure => exact HM.out
              case rel => exact ⟨i + 1, A2, n2, c2, rfl, by omega, by first | rfl | go_num, rfl, Lib.hid (by have := hn2.out; have := hi64.out; omega), Lib.hid (HM2.out.below hbx.out), Lib.hid (below_next hbi.out hbx.out)⟩
            | false =>
              by_cases hp : qp ≤ p
              · have hgd : Hid (Ca.good false p ⟨qi, qo, qp, qa, qpl, false⟩ = true) := Lib.hid (by simp [Ca.good, hp])
                have hN := hNx.out
                rw [if_pos (by rw [hgd.out])] at hN
                have HN := Lib.hid hN
                clear hN hNx
                have hA1 : Hid (n2 + 1 ≤ maxLen) := Lib.hid (by have := hn2.out; unfold maxLen; omega)
                have hA2 : Hid ((n2 + 1) * 48 ≤ 140737488355328) := Lib.hid (by have := hn2.out; omega)
                have hS1 : Hid (∀ wx : World, Src Try.prog 6 22 (.slice (some ⟨wx.heap.size, 0, none⟩) 1 1) 1 (ocell ⟨qi, qo, qp, qa, qpl, false⟩) (wx.alloc (.cells (ocell ⟨qi, qo, qp, qa, qpl, false⟩).toArray 33))) := Lib.hid fun wx => src_new Try.underlying22 wx _ _ 1 1 rfl (by simp [ocell, Value.oneCell'])
                clear hgd
                go_upto_region 11 with (fail)
                go_wp2_with (first
                  | (at_builtin; (refine wpList_append_mine rfl (.tmp 54) (.tmp 56) 22 22 rfl 33 i1 (.agg #[.int .i64 0, .int .i64 0, .int .i64 0, .int .i64 0, .int .i64 0, .bool false]) 48 Try.underlying22 HI1.out HY0.out HY1.out HY2.out rfl (by decide) rfl ((HM2.out.below hbx.out).alloc _) ((below_next hbi.out hbx.out).alloc (below_next hbi.out hbx.out).size _) _ 1 (ocell ⟨qi, qo, qp, qa, qpl, false⟩) rfl (hS1.out _) hA1.out hA2.out ?_); intro A3 c3 w3 hm3 hb3; have HM3 := Lib.hid hm3; have HB3 := Lib.hid hb3; clear hm3 hb3))
                go_roundg (r + 1 - (i + 1))
                case measure => exact HM.out
                case rel => exact ⟨i + 1, A3, n2 + 1, c3, rfl, by omega, by first | rfl | go_num, rfl, Lib.hid (by rw [HN.out, List.length_append]; have := hn2.out; have := hi64.out; simp only [List.length_cons, List.length_nil]; omega), Lib.hid (by rw [HN.out, ocells_append]; exact HM3.out), HB3⟩
              · have hgd : Hid (Ca.good false p ⟨qi, qo, qp, qa, qpl, false⟩ = false) := Lib.hid (by simp [Ca.good, hp])
                have hN := hNx.out
                rw [if_neg (by rw [hgd.out]; simp), List.append_nil] at hN
                have HN := Lib.hid hN
                clear hN hNx
                rw [← HN.out] at HM2 hn2
                clear hgd
                go_wp2
                go_roundg (r + 1 - (i + 1))
                case measure => exact HM.out
                case rel => exact ⟨i + 1, A2, n2, c2, rfl, by omega, by first | rfl | go_num, rfl, Lib.hid (by have := hn2.out; have := hi64.out; omega), Lib.hid (HM2.out.below hbx.out), Lib.hid (below_next hbi.out hbx.out)⟩
        · obtain rfl : r = i := by omega
          have hside : Hid (R.take r = R) := Lib.hid (List.take_of_length_le (Nat.le_of_eq hr1.out))
          rw [hside.out] at hn2 HM2
          have HSw : Hid (Sw wo wr A2 n2 c2 (Ca.sideOf sd p R)) := Lib.hid ⟨HM2.out, hn2.out.1, hbi.out⟩
          have h64 : n2 ≤ 64 := by have := hn2.out; omega
          have HSo := Lib.hid (sort_calls wo wr A2 n2 c2 _ sd HSw.out h64 Ca.sideOf_buys)
          have HIs := Lib.hid (isort_stab sd (Ca.sideOf sd p R))
          obtain ⟨I, hI⟩ : ∃ I, Hid (isort sd (Ca.sideOf sd p R) = I) := ⟨_, Lib.hid rfl⟩
          rw [hI.out] at HIs HT1
          have HSo2 : Hid (Calls Try.prog 38 #[.slice A2 n2 c2, .func (.func 39) #[] #[]] wr fun e w' => e = .returned (.tuple #[]) ∧ Sw wo w' A2 n2 c2 I) := Lib.hid (HSo.out.mono (by
            rintro e w' ⟨rfl, F, hF, hw⟩
            rw [hF.one (fst_swo sd) HIs.out] at hw
            exact ⟨rfl, hw⟩))
          clear HSo HSw HIs hI HM2 hside
          go_upto_region 16 with (go_at_call 38; (with_reducible refine HSo2.out.mono ?_); rintro e w3 ⟨rfl, hw⟩; have HS3 := Lib.hid hw; clear hw)
          have HD0 : Hid (Duo 3 6 w2 w3 (.slice A n c) n (fcells (outs ++ Ca.fillGo amt (I.take 0))) (.slice A2 n2 c2) n2 (ocells I)) := Lib.hid (by
            have := Duo.of HM1.out hb.out.size HS3.out.all HS3.out.row
            rw [List.take_zero, show Ca.fillGo amt [] = [] from rfl, List.append_nil]; exact this)
          have hb3 : Hid (Below w2.heap.size w2 w3) := Lib.hid (hb.out.trans (HS3.out.all.mono hb.out.size))
          have hIl := Lib.hid HS3.out.len
          have hnl := Lib.hid hn.out.1
          have hnt := Lib.hid hn.out.2
          clear HSo2 HS3 HM1 hn hn2 hbi
          go_loopg [7, 13, 64] (n2 + 1) (fun gk s7 s13 s64 wi => ∃ (j : Nat) (A3 : Option Addr) (n3 c3 : Nat), gk = n2 + 1 - j ∧ j ≤ n2 ∧ s64 = .int .i64 (j : Int) ∧ s13 = .int .i64 (Ca.leftGo amt (I.take j)) ∧ s7 = .slice A3 n3 c3 ∧ Hid ((outs ++ Ca.fillGo amt (I.take j)).length = n3 ∧ n3 ≤ n + j) ∧ Hid (Duo 3 6 w2 wi (.slice A3 n3 c3) n3 (fcells (outs ++ Ca.fillGo amt (I.take j))) (.slice A2 n2 c2) n2 (ocells I)) ∧ Hid (Below w2.heap.size w2 wi))
          case atStart => exact ⟨0, A, n, c, rfl, Nat.zero_le _, rfl, rfl, rfl, Lib.hid ⟨by rw [List.take_zero, show Ca.fillGo amt [] = [] from rfl, List.append_nil]; exact hnl.out, Nat.le_refl _⟩, HD0, hb3⟩
          case round =>
            clear HD0 hb3 HB1
            obtain ⟨j, A3, n3, c3, rfl, hj, rfl, rfl, rfl, hn3, HD, hbj⟩ := hrel
            have j0 : (0 : Int) ≤ (j : Int) := by omega
            by_cases hjl : j < n2
            · have hjI : (j : Int) < (n2 : Int) := by omega
              have hjL : Hid (j < I.length) := Lib.hid (by rw [hIl.out]; exact hjl)
              have hOI := Lib.hid (HD.out.snd.orow hIl.out).2
              obtain ⟨b, o, rfl⟩ : ∃ b o, A2 = some ⟨b, o, none⟩ := by
                obtain ⟨b, o, e, _⟩ := hOI.out.cells hjL.out
                exact ⟨b, o, e⟩
              obtain ⟨c0, c1', c2', c3', c4, c5⟩ := ORow.six hOI.out hjL.out (Below.refl _ _)
              have hfl := Lib.hid (Ca.fillGo_snoc (I.getD j ord0) (I.take j) amt)
              have hll := Lib.hid (Ca.leftGo_snoc (I.getD j ord0) (I.take j) amt)
              rw [← Ca.take_at I hjL.out] at hfl hll
              have hlr := Ca.leftGo_range (lo := -9223372036854775808) (hi := 9223372036854775807) (by decide) (I.take j) amt Hr.out.1 Hr.out.2
              have HM := Lib.hid (show n2 + 1 - (j + 1) < n2 + 1 - j by omega)
              generalize I.getD j ord0 = q at c0 c1' c2' c3' c4 c5 hfl hll
              generalize Ca.leftGo amt (I.take j) = l at hfl hll hlr ⊢
              generalize Ca.fillGo amt (I.take j) = fo at hfl hn3 HD
              obtain ⟨qi, qo, qp, qa, qpl, qb⟩ := q
              simp only at c0 c1' c2' c3' c4 c5 hfl hll
              go_upto_region 18 with (fail)
              have hbx : Hid (Below wr.heap.size wr (wr.alloc (.cells #[.int .i64 qi, .int .i64 qo, .int .i64 qp, .int .i64 qa, .int .i64 qpl, .bool qb] 33))) := Lib.hid ((Below.refl _ _).alloc (Nat.le_refl _) _)
              have BA := Lib.hid (Blk.new wr 33 #[.int .i64 qi, .int .i64 qo, .int .i64 qp, .int .i64 qa, .int .i64 qpl, .bool qb])
              obtain ⟨g1, hg1⟩ : ∃ g1, Hid (wr.heap.size = g1) := ⟨_, Lib.hid rfl⟩
              rw [hg1.out] at BA ⊢
              clear c0 c1' c2' c3' c4 c5
              obtain ⟨wi, hwi⟩ : ∃ wi, wi = wr := ⟨_, rfl⟩
              subst hwi
              generalize World.alloc wi _ = wx at hbx BA ⊢
              obtain ⟨c0, c1', c3'⟩ : wx.cell? ⟨g1, 0, none⟩ = some (.int .i64 qi) ∧ wx.cell? ⟨g1, 1, none⟩ = some (.int .i64 qo) ∧ wx.cell? ⟨g1, 3, none⟩ = some (.int .i64 qa) := ⟨BA.out.cell 0, BA.out.cell 1, BA.out.cell 3⟩
              have HDx := Lib.hid (HD.out.below hbx.out)
              have hbjx := Lib.hid (hbj.out.trans (hbx.out.mono hbj.out.size))
              have HLr := Lib.hid hlr
              have hj64 : j + 1 ≤ 64 := by omega
              clear hlr HD hbj hbx
              by_cases hlq : l ≤ qa
              · rw [Int.min_eq_left hlq] at hfl hll
                go_upto_region 19 with (fail)
                by_cases hpos : 0 < l
                ·
                  rw [if_pos hpos] at hfl hll
                  have hposH := Lib.hid hpos
                  have qs : IntKind.i64.wrap (l - l) = l - l := by rw [IntKind.wrap_i64]; have := HLr.out; omega
                  have hA1 : Hid (n3 + 1 ≤ maxLen) := Lib.hid (by have := hn3.out; have := hnt.out; unfold maxLen; omega)
                  have hA2 : Hid ((n3 + 1) * 24 ≤ 140737488355328) := Lib.hid (by have := hn3.out; have := hnt.out; omega)
                  have hS1 : Hid (∀ wx : World, Src Try.prog 3 25 (.slice (some ⟨wx.heap.size, 0, none⟩) 1 1) 1 (fcell ⟨qi, qo, l⟩) (wx.alloc (.cells (fcell ⟨qi, qo, l⟩).toArray 44))) := Lib.hid fun wx => src_new Try.underlying25 wx _ _ 1 1 rfl (by simp [fcell, Value.oneCell'])
                  go_upto_region 20 with (fail)
                  go_wp2_with (first
                    | (at_builtin; (refine wpList_append_duo rfl (.tmp 74) (.tmp 81) 25 25 rfl 44 j1 (.agg #[.int .i64 0, .int .i64 0, .int .i64 0]) 24 Try.underlying25 HJ1.out HZ0.out HZ1.out HZ2.out rfl (by decide) rfl (HDx.out.alloc _) (hbjx.out.alloc hbjx.out.size _) _ 1 (fcell ⟨qi, qo, l⟩) rfl (hS1.out _) hA1.out hA2.out ?_); intro A4 c4 w4 hd4 hb4; have HD4 := Lib.hid hd4; have HB4 := Lib.hid hb4; clear hd4 hb4))
                  go_roundg (n2 + 1 - (j + 1))
                  case measure => exact HM.out
                  case rel => exact ⟨j + 1, A4, n3 + 1, c4, rfl, by omega, by first | rfl | go_num, by (first | (rw [hll.out]; done) | (rw [hll.out]; simp)), rfl, Lib.hid ⟨by rw [hfl.out, ← List.append_assoc, List.length_append, hn3.out.1]; rfl, by have := hn3.out; omega⟩, Lib.hid (by rw [hfl.out, ← List.append_assoc, fcells_append]; exact HD4.out), HB4⟩
                ·
                  rw [if_neg hpos] at hfl hll
                  rw [List.append_nil] at hfl
                  go_wp2
                  go_roundg (n2 + 1 - (j + 1))
                  case measure => exact HM.out
                  case rel => exact ⟨j + 1, A3, n3, c3, rfl, by omega, by first | rfl | go_num, by rw [hll.out], rfl, Lib.hid ⟨by rw [hfl.out]; exact hn3.out.1, by have := hn3.out; omega⟩, Lib.hid (by rw [hfl.out]; exact HDx.out), hbjx⟩
              · rw [Int.min_eq_right (by omega)] at hfl hll
                go_upto_region 19 with (fail)
                by_cases hpos : 0 < qa
                ·
                  rw [if_pos hpos] at hfl hll
                  have hposH := Lib.hid hpos
                  have qs : IntKind.i64.wrap (l - qa) = l - qa := by rw [IntKind.wrap_i64]; have := HLr.out; omega
                  have hA1 : Hid (n3 + 1 ≤ maxLen) := Lib.hid (by have := hn3.out; have := hnt.out; unfold maxLen; omega)
                  have hA2 : Hid ((n3 + 1) * 24 ≤ 140737488355328) := Lib.hid (by have := hn3.out; have := hnt.out; omega)
                  have hS1 : Hid (∀ wx : World, Src Try.prog 3 25 (.slice (some ⟨wx.heap.size, 0, none⟩) 1 1) 1 (fcell ⟨qi, qo, qa⟩) (wx.alloc (.cells (fcell ⟨qi, qo, qa⟩).toArray 44))) := Lib.hid fun wx => src_new Try.underlying25 wx _ _ 1 1 rfl (by simp [fcell, Value.oneCell'])
                  go_upto_region 20 with (fail)
                  go_wp2_with (first
                    | (at_builtin; (refine wpList_append_duo rfl (.tmp 74) (.tmp 81) 25 25 rfl 44 j1 (.agg #[.int .i64 0, .int .i64 0, .int .i64 0]) 24 Try.underlying25 HJ1.out HZ0.out HZ1.out HZ2.out rfl (by decide) rfl (HDx.out.alloc _) (hbjx.out.alloc hbjx.out.size _) _ 1 (fcell ⟨qi, qo, qa⟩) rfl (hS1.out _) hA1.out hA2.out ?_); intro A4 c4 w4 hd4 hb4; have HD4 := Lib.hid hd4; have HB4 := Lib.hid hb4; clear hd4 hb4))
                  go_roundg (n2 + 1 - (j + 1))
                  case measure => exact HM.out
                  case rel => exact ⟨j + 1, A4, n3 + 1, c4, rfl, by omega, by first | rfl | go_num, by (first | (rw [hll.out]; done) | (rw [hll.out]; simp)), rfl, Lib.hid ⟨by rw [hfl.out, ← List.append_assoc, List.length_append, hn3.out.1]; rfl, by have := hn3.out; omega⟩, Lib.hid (by rw [hfl.out, ← List.append_assoc, fcells_append]; exact HD4.out), HB4⟩
                ·
                  rw [if_neg hpos] at hfl hll
                  rw [List.append_nil] at hfl
                  go_wp2
                  go_roundg (n2 + 1 - (j + 1))
                  case measure => exact HM.out
                  case rel => exact ⟨j + 1, A3, n3, c3, rfl, by omega, by first | rfl | go_num, by rw [hll.out], rfl, Lib.hid ⟨by rw [hfl.out]; exact hn3.out.1, by have := hn3.out; omega⟩, Lib.hid (by rw [hfl.out]; exact HDx.out), hbjx⟩
            · obtain rfl : n2 = j := by omega
              have htk : Hid (I.take n2 = I) := Lib.hid (List.take_of_length_le (Nat.le_of_eq hIl.out))
              rw [htk.out, ← HT1.out] at HD hn3
              have hMf := Lib.hid HD.out.fst
              clear HD
              go_wp2
              go_roundg (3 - (t + 1))
              case measure => exact HMt.out
              case rel => exact ⟨t + 1, A3, n3, c3, rfl, by omega, by first | rfl | go_num, rfl, Lib.hid ⟨hn3.out.1, by have := hn3.out.2; have := hnt.out; omega⟩, hMf, hbj⟩
    · obtain rfl : t = 2 := by omega
      have hfin : Hid (FLeft w T (.returned (.slice A n c)) wr) := Lib.hid (by
        have h1 := HM1.out
        have h2 := hn.out.1
        rw [HE.out] at h1 h2
        subst h2
        exact ⟨A, c, rfl, h1.base (Nat.le_trans HB1.out.size hb2.out.size), (HB1.out.trans (hb2.out.mono HB1.out.size)).trans (hb.out.mono (Nat.le_trans HB1.out.size hb2.out.size))⟩)
      go_wp2
      refine bodyPost_ret (by simp [results, Try.results16, asAddr, go_sem]; rfl) rfl ?_
      exact hfin.out
end Go.Proofs.Ytilbhnloelgpdaa
