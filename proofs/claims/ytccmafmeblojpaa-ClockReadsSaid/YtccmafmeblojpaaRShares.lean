/- The reference's Shares: it refuses where the program does, and parts alike. -/
import Derived.Test.YtccmafmeblojpaaShBad
import Derived.Test.YtccmafmeblojpaaOwnK
import Derived.BigQuiet
namespace Go.Proofs.Ytccmafmeblojpaa
open Go.RowKit
set_option maxHeartbeats 1000000 in
set_option maxRecDepth 100000 in
theorem rshares_many (w : World) (m : Int) (A : Option Addr) (c n : Nat) (L : List Int) (hn : L.length = n) (hm : 16 < n) (hmx : n ≤ 140737488351232) (hA : IRow w A L) :
    Calls Try.prog 13 #[.int .i64 m, .slice A n c] w fun e w' => e = .returned (.tuple #[.slice none 0 0, .bool false]) ∧ w' = w := by
  have HA := Lib.hid hA
  have HN := Lib.hid hn
  clear hA hn
  have hmI : (16 : Int) < (n : Int) := by omega
  go_enter Try.func13, Try.ntmps13
  go_wp2
  go_loopg [6] (n + 1) (fun gk s6 wr => ∃ (i : Nat), gk = n + 1 - i ∧ i ≤ n ∧ s6 = .int .i64 (i : Int) ∧ Hid (wr = w))
  case atStart => exact ⟨0, rfl, Nat.zero_le _, rfl, Lib.hid rfl⟩
  case round =>
    obtain ⟨i, rfl, hi, rfl, hw⟩ := hrel
    have i0 : (0 : Int) ≤ (i : Int) := by omega
    by_cases hlt : i < n
    · have hltI : (i : Int) < (n : Int) := by omega
      have hl : i < L.length := by rw [HN.out]; exact hlt
      obtain ⟨ba, oa, rfl⟩ := HA.out.some hl
      have c1 : wr.cell? ⟨ba, oa + i, none⟩ = some (.int .i64 (L.getD i 0)) := by
        rw [hw.out]
        exact HA.out.cell hl
      generalize L.getD i 0 = y at c1
      clear hl
      by_cases hb0 : y < 0
      · go_wp2
        go_ret2
        exact ⟨rfl, hw.out⟩
      · have hb1 : 0 ≤ y := by omega
        by_cases hb2 : 1048576 < y
        · go_wp2
          go_ret2
          exact ⟨rfl, hw.out⟩
        · have hb3 : y ≤ 1048576 := by omega
          go_wp2
          go_roundg (n + 1 - (i + 1))
          case measure => omega
          case rel => exact ⟨i + 1, rfl, by omega, by go_num, hw⟩
    · obtain rfl : i = n := by omega
      go_wp2
      go_ret2
      exact ⟨rfl, hw.out⟩
set_option maxHeartbeats 1000000 in
set_option maxRecDepth 100000 in
/-- No more gaps than may be. -/
theorem rshares_few (w : World) (m : Int) (A : Option Addr) (c n : Nat) (L : List Int) (hn : L.length = n) (hm : n ≤ 16) (hA : IRow w A L) (hbad : (∃ g ∈ L, g < 0 ∨ 1048576 < g) ∨ m < 0 ∨ 1048576 < m ∨ L.sum < m) :
    Calls Try.prog 13 #[.int .i64 m, .slice A n c] w fun e w' => e = .returned (.tuple #[.slice none 0 0, .bool false]) ∧ ∃ k, w' = w.drewN k := by
  have HA := Lib.hid hA
  have HN := Lib.hid hn
  have HBad := Lib.hid hbad
  clear hA hn hbad
  have hmI : ¬ (16 : Int) < (n : Int) := by omega
  go_enter Try.func13, Try.ntmps13
  go_wp2
  go_loopg [6] (n + 1) (fun gk s6 wr => ∃ i : Nat, gk = n + 1 - i ∧ i ≤ n ∧ s6 = .int .i64 (i : Int) ∧ Hid (wr = w) ∧ Hid (∀ g ∈ L.take i, 0 ≤ g ∧ g ≤ 1048576))
  case atStart => exact ⟨0, rfl, Nat.zero_le _, rfl, Lib.hid rfl, Lib.hid (by simp)⟩
  case round =>
    obtain ⟨i, rfl, hi, rfl, hw, hok⟩ := hrel
    have i0 : (0 : Int) ≤ (i : Int) := by omega
    by_cases hlt : i < n
    · have hltI : (i : Int) < (n : Int) := by omega
      have hl : i < L.length := by rw [HN.out]; exact hlt
      obtain ⟨ba, oa, rfl⟩ := HA.out.some hl
      have c1 : wr.cell? ⟨ba, oa + i, none⟩ = some (.int .i64 (L.getD i 0)) := by
        rw [hw.out]
        exact HA.out.cell hl
      have htk : Hid (L.take (i + 1) = L.take i ++ [L.getD i 0]) := Lib.hid (by
        rw [List.take_add_one, List.getD_eq_getElem?_getD, List.getElem?_eq_getElem hl]; rfl)
      generalize L.getD i 0 = y at c1 htk
      clear hl
      by_cases hb0 : y < 0
      · go_wp2
        go_ret2
        exact ⟨rfl, 0, hw.out⟩
      · have hb1 : 0 ≤ y := by omega
        by_cases hb2 : 1048576 < y
        · go_wp2
          go_ret2
          exact ⟨rfl, 0, hw.out⟩
        · have hb3 : y ≤ 1048576 := by omega
          go_wp2
          go_roundg (n + 1 - (i + 1))
          case measure => omega
          case rel =>
            refine ⟨i + 1, rfl, by omega, by go_num, hw, Lib.hid fun g hg => ?_⟩
            rw [htk.out, List.mem_append, List.mem_singleton] at hg
            rcases hg with hg | rfl
            · exact hok.out g hg
            · exact ⟨hb1, hb3⟩
    · obtain rfl : i = n := by omega
      have htl : Hid (L.take i = L) := Lib.hid (List.take_of_length_le (by rw [HN.out]; exact Nat.le_refl _))
      have hrest : m < 0 ∨ ¬ m < 0 ∧ 1048576 < m ∨ ¬ m < 0 ∧ m ≤ 1048576 ∧ L.sum < m := by
        rcases HBad.out with ⟨g, hg, hb⟩ | h
        · have := hok.out g (by rw [htl.out]; exact hg)
          omega
        · omega
      have hS := Lib.hid (fun w1 (h : IRow w1 A L) => refsum_calls w1 A c i L HN.out (by omega) (fun g hg => hok.out g (by rw [htl.out]; exact hg)) h)
      rcases hrest with h1 | ⟨h1, h2⟩ | ⟨h1, h2, h3⟩
      · go_wp2
        go_ret2
        exact ⟨rfl, 0, hw.out⟩
      · have h1' : 0 ≤ m := by omega
        go_wp2
        go_ret2
        exact ⟨rfl, 0, hw.out⟩
      · have h1' : 0 ≤ m := by omega
        obtain rfl := hw.out
        go_wp2_with (first | (go_at_call 16; (with_reducible refine (hS.out _ HA.out).mono ?_); rintro e w1 ⟨rfl, nd, rfl⟩))
        go_ret2
        exact ⟨rfl, nd, rfl⟩
theorem Mine.irow {w0 w : World} {A : Option Addr} {c n : Nat} {L : List Int} (h : Mine w0 w 1 (.slice A n c) n (icells L)) : IRow w A L := by
  have hl := h.len
  simp only [icells, List.length_map, Nat.mul_one] at hl
  obtain ⟨A', c', e, h1, h2, h3⟩ := h.row
  cases e
  unfold IRow
  rw [Nat.mul_one, ← hl] at h3
  refine h3.of_eq fun j hj => ?_
  rw [List.getD_eq_getElem?_getD, icells_get L hj]; rfl
theorem IRow.drewN {w : World} {A : Option Addr} {L : List Int} (h : IRow w A L) (k : Nat) : IRow (w.drewN k) A L := h
theorem IRow.below {w w' : World} {A : Option Addr} {L : List Int} (h : IRow w A L) (hb : Below w.heap.size w w') : IRow w' A L := Row.below h hb
theorem icells_append (a b : List Int) : icells (a ++ b) = icells a ++ icells b := by simp [icells]
set_option maxHeartbeats 4000000 in
set_option maxRecDepth 100000 in
theorem rshares_mine (w : World) (n : Int) (A : Option Addr) (m c : Nat) (gaps : List Int) (hm : gaps.length = m) (hm16 : m ≤ 16) (hg : ∀ g ∈ gaps, 0 ≤ g ∧ g ≤ 1048576) (hn : 0 ≤ n ∧ n ≤ 1048576) (hns : n ≤ gaps.sum) (hR : IRow w A gaps) :
    Calls Try.prog 13 #[.int .i64 n, .slice A m c] w fun e w' => ∃ B d, e = .returned (.tuple #[.slice B m d, .bool true]) ∧ Mine w w' 1 (.slice B m d) m (icells (Sh.shares n gaps)) ∧ Below w.heap.size w w' := by
  have HR := Lib.hid hR
  have HM := Lib.hid hm
  have HG := Lib.hid hg
  obtain ⟨n0, n1⟩ := id hn
  have HNS := Lib.hid hns
  have HN := Lib.hid hn
  have hsb := Sh.sum_bound hg
  have hS : Hid (0 ≤ gaps.sum ∧ gaps.sum ≤ 16777216) := Lib.hid (by omega)
  have m16 : (m : Int) ≤ 16 := by omega
  clear hm hg hR hns hsb hn
  have hat : Hid (∀ i, i < m → 0 ≤ gaps.getD i 0 ∧ gaps.getD i 0 ≤ 1048576 ∧ gaps.getD i 0 ≤ gaps.sum) := Lib.hid fun i hi => by
    have hmem : gaps.getD i 0 ∈ gaps := by
      rw [List.getD_eq_getElem?_getD, List.getElem?_eq_getElem (by rw [HM.out]; exact hi)]; exact List.getElem_mem _
    exact ⟨(HG.out _ hmem).1, (HG.out _ hmem).2, Sh.le_sum HG.out hmem⟩
  have hSum := Lib.hid (fun w1 (h : IRow w1 A gaps) => refsum_calls w1 A c m gaps HM.out (by omega) HG.out h)
  go_enter Try.func13, Try.ntmps13
  go_wp2
  go_loopg [6] (m + 1) (fun gk s6 wr => ∃ i, gk = m + 1 - i ∧ i ≤ m ∧ s6 = .int .i64 (i : Int) ∧ wr = w)
  case atStart => exact ⟨0, rfl, Nat.zero_le _, rfl, rfl⟩
  case round =>
    obtain ⟨i, rfl, hi, rfl, rfl⟩ := hrel
    have i0 : (0 : Int) ≤ (i : Int) := by omega
    by_cases hlt : i < m
    · obtain ⟨pb, po, rfl⟩ := HR.out.some (i := i) (by rw [HM.out]; exact hlt)
      have cg : wr.cell? ⟨pb, po + i, none⟩ = some (.int .i64 (gaps.getD i 0)) := HR.out.cell (by rw [HM.out]; exact hlt)
      have hl2 : (i : Int) < (m : Int) := by omega
      obtain ⟨g0, g1, -⟩ := hat.out i hlt
      generalize gaps.getD i 0 = y at cg g0 g1
      go_wp2
      go_roundg (m + 1 - (i + 1))
      case measure => omega
      case rel => exact ⟨i + 1, rfl, by omega, by go_num, rfl⟩
    · obtain rfl : i = m := by omega
      obtain ⟨S, hSS⟩ : ∃ S, Hid (gaps.sum = S) := ⟨_, Lib.hid rfl⟩
      rw [hSS.out] at hSum
      obtain ⟨s0, s1⟩ : 0 ≤ S ∧ S ≤ 16777216 := by rw [← hSS.out]; exact hS.out
      have hnS : n ≤ S := by rw [← hSS.out]; exact HNS.out
      have hi16 : i ≤ 16 := hm16
      have k2 : ¬ (16 < (i : Int)) := by omega
      clear hlt
      obtain ⟨i1, hi1, hy0, hy1, hy2⟩ := info_parts info_int
      have HI1 := Lib.hid hi1
      have HY0 := Lib.hid hy0
      have HY1 := Lib.hid hy1
      have HY2 := Lib.hid hy2
      clear hi1 hy0 hy1 hy2
      obtain ⟨w0, hw0⟩ : ∃ x, x = wr := ⟨_, rfl⟩
      go_wp2_with (first
        | (go_at_call 16; first
            | ((with_reducible refine (hSum.out _ HR.out).mono ?_); rintro e w1 ⟨rfl, nd, rfl⟩)
            | ((with_reducible refine (hSum.out _ (HR.out.drewN _)).mono ?_); rintro e w1 ⟨rfl, nd2, rfl⟩)))
      have hb0 : Hid (Below w0.heap.size w0 (wr.drewN (nd + nd2))) := Lib.hid (by rw [hw0]; exact below_self _ _)
      have HR2 : Hid (IRow w0 A gaps) := by rw [hw0]; exact HR
      generalize World.drewN wr (nd + nd2) = wx at hb0 ⊢
      subst hw0
      clear hSum HR
      have hfb : Hid (∀ j, 0 ≤ ((Sh.firsts n gaps).take j).sum ∧ ((Sh.firsts n gaps).take j).sum ≤ 16777216) := Lib.hid (Sh.take_sum_bound HN.out HG.out (by rw [HM.out]; exact hm16))
      go_loopg [8, 9] (i + 1) (fun gk s8 s9 wr => ∃ j B d, gk = i + 1 - j ∧ j ≤ i ∧ s9 = .int .i64 (j : Int) ∧ s8 = .slice B j d ∧ Hid (Mine w0 wr 1 (.slice B j d) j (icells ((Sh.firsts n gaps).take j))) ∧ Hid (Below w0.heap.size w0 wr))
      case atStart => exact ⟨0, none, 0, rfl, Nat.zero_le _, rfl, rfl, Lib.hid (Mine.empty _ _ _ _), hb0⟩
      case round =>
        clear hb0
        obtain ⟨j, B, d, rfl, hj, rfl, rfl, hmn, hb⟩ := hrel
        have j0 : (0 : Int) ≤ (j : Int) := by omega
        by_cases hlt : j < i
        · have hjl : j < gaps.length := by rw [HM.out]; exact hlt
          obtain ⟨pb, po, rfl⟩ := HR2.out.some hjl
          have cg : wr.cell? ⟨pb, po + j, none⟩ = some (.int .i64 (gaps.getD j 0)) := by
            obtain ⟨b', o', e, h1, h2⟩ := Row.at_ HR2.out hjl
            cases e; exact (below_cell hb.out h1).trans h2
          have hl2 : (j : Int) < (i : Int) := by omega
          obtain ⟨g0, g1, g2⟩ := hat.out j hlt
          rw [hSS.out] at g2
          have hft : Hid ((Sh.firsts n gaps).take (j + 1) = (Sh.firsts n gaps).take j ++ [Sh.first n S (gaps.getD j 0)]) := Lib.hid (by
            rw [List.take_add_one]
            congr 1
            unfold Sh.firsts
            rw [List.getElem?_map, List.getElem?_eq_getElem hjl, hSS.out, List.getD_eq_getElem?_getD, List.getElem?_eq_getElem hjl]; rfl)
          obtain ⟨y, hy⟩ : ∃ y, gaps.getD j 0 = y := ⟨_, rfl⟩
          rw [hy] at cg g0 g1 g2 hft
          have hfb2 := Sh.first_bound HN.out g0 g2
          by_cases hS0 : 0 < S
          · have e1 : Hid (Sh.first n S y = n * y / S) := Lib.hid (by unfold Sh.first; rw [if_pos hS0])
            have hm0 : 0 ≤ n * y := Int.mul_nonneg n0 g0
            have hm1 : n * y ≤ 1099511627776 := by
              have h1 := Int.mul_le_mul_of_nonneg_left g1 n0
              omega
            have q1 : IntKind.i64.wrap (n * y) = n * y := by rw [IntKind.wrap_i64]; omega
            have q2 : (n * y).tdiv S = n * y / S := Int.tdiv_eq_ediv_of_nonneg hm0
            rw [e1.out] at hfb2 hft
            obtain ⟨z, hz⟩ : ∃ z, n * y / S = z := ⟨_, rfl⟩
            rw [hz] at hfb2 hft
            obtain ⟨z0, z1⟩ := hfb2
            clear hy hjl
            go_wp2_with (first
              | (refine wpList_append_mine rfl (.tmp 66) (.tmp 68) 22 22 rfl 3 i1 (.int .i64 0) 8 Try.underlying22 HI1.out HY0.out HY1.out HY2.out rfl (by decide) rfl (hmn.out.alloc _) (hb.out.alloc hb.out.size _) _ 1 [.int .i64 z] rfl (src_new Try.underlying22 _ _ _ 1 1 rfl (by simp [Value.oneCell'])) (by unfold maxLen; omega) (by omega) ?_; intro A2 c2 w2 hm2 hb2))
            go_roundg (i + 1 - (j + 1))
            case measure => omega
            case rel => exact ⟨j + 1, A2, c2, rfl, by omega, by go_num, rfl, Lib.hid (by rw [hft.out, icells_append]; exact hm2), Lib.hid hb2⟩
          · have e1 : Hid (Sh.first n S y = 0) := Lib.hid (by unfold Sh.first; rw [if_neg hS0])
            rw [e1.out] at hft
            have hS1 : S ≤ 0 := by omega
            clear hy hjl hfb2
            go_wp2_with (first
              | (refine wpList_append_mine rfl (.tmp 66) (.tmp 68) 22 22 rfl 3 i1 (.int .i64 0) 8 Try.underlying22 HI1.out HY0.out HY1.out HY2.out rfl (by decide) rfl (hmn.out.alloc _) (hb.out.alloc hb.out.size _) _ 1 [.int .i64 0] rfl (src_new Try.underlying22 _ _ _ 1 1 rfl (by simp [Value.oneCell'])) (by unfold maxLen; omega) (by omega) ?_; intro A2 c2 w2 hm2 hb2))
            go_roundg (i + 1 - (j + 1))
            case measure => omega
            case rel => exact ⟨j + 1, A2, c2, rfl, by omega, by go_num, rfl, Lib.hid (by rw [hft.out, icells_append]; exact hm2), Lib.hid hb2⟩
        · obtain rfl : j = i := by omega
          have htl : (Sh.firsts n gaps).take j = Sh.firsts n gaps := List.take_of_length_le (by rw [Sh.firsts_length, HM.out]; exact Nat.le_refl _)
          obtain ⟨t0, t1⟩ := hfb.out j
          rw [htl] at hmn t0 t1
          have hfbd : Hid (∀ x ∈ Sh.firsts n gaps, 0 ≤ x ∧ x ≤ 1048576) := Lib.hid fun x hx => by
            unfold Sh.firsts at hx
            obtain ⟨y, hy, rfl⟩ := List.mem_map.1 hx
            have h1 := Sh.first_bound HN.out (HG.out y hy).1 (Sh.le_sum HG.out hy)
            have h2 := HN.out
            omega
          have hSum := Lib.hid (fun w1 (h : IRow w1 B (Sh.firsts n gaps)) => refsum_calls w1 B d j (Sh.firsts n gaps) (by rw [Sh.firsts_length, HM.out]) (by omega) hfbd.out h)
          have hle : n - (Sh.firsts n gaps).sum ≤ 1048576 := by omega
          have hge : -16777216 ≤ n - (Sh.firsts n gaps).sum := by omega
          obtain ⟨L0, hL0⟩ : ∃ L0, Hid (n - (Sh.firsts n gaps).sum = L0) := ⟨_, Lib.hid rfl⟩
          have hob : Hid (∀ q, 0 ≤ (Sh.firsts n gaps).getD q 0 ∧ (Sh.firsts n gaps).getD q 0 ≤ 1048576) := Lib.hid fun q => by
            rw [List.getD_eq_getElem?_getD]
            cases hq : (Sh.firsts n gaps)[q]? with
            | none => simp
            | some x => exact hfbd.out x (List.mem_of_getElem? hq)
          clear hlt htl
          go_upto_region 18 with (first | (go_at_call 16; (with_reducible refine (hSum.out _ hmn.out.irow).mono ?_); rintro e w1 ⟨rfl, nd, rfl⟩))
          have hmn2 : Hid (Mine w0 (wr.drewN nd) 1 (.slice B j d) j (icells (Sh.bumps gaps L0 (Sh.firsts n gaps) 0).2)) := Lib.hid (hmn.out.drewN _)
          have hb2 : Hid (Below w0.heap.size w0 (wr.drewN nd)) := Lib.hid (below_draw hb.out _)
          rw [hL0.out] at hle hge ⊢
          generalize World.drewN wr nd = wx at hmn2 hb2 ⊢
          clear hmn hb t0 t1 hSum
          go_wp2
          go_loopg [11, 12] (j + 1) (fun gk s11 s12 wr => ∃ q, gk = j + 1 - q ∧ q ≤ j ∧ s12 = .int .i64 (q : Int) ∧ s11 = .int .i64 (Sh.bumps gaps L0 (Sh.firsts n gaps) q).1 ∧ Hid (Mine w0 wr 1 (.slice B j d) j (icells (Sh.bumps gaps L0 (Sh.firsts n gaps) q).2)) ∧ Hid (Below w0.heap.size w0 wr))
          case atStart => exact ⟨0, rfl, Nat.zero_le _, rfl, rfl, hmn2, hb2⟩
          case round =>
            clear hmn2 hb2
            obtain ⟨q, rfl, hq, rfl, rfl, hmn, hb⟩ := hrel
            have q0 : (0 : Int) ≤ (q : Int) := by omega
            obtain ⟨u0, u1⟩ := Sh.bumps_bound gaps L0 (Sh.firsts n gaps) q
            by_cases hlt : q < j
            · have hjl : q < gaps.length := by rw [HM.out]; exact hlt
              obtain ⟨pb, po, rfl⟩ := HR2.out.some hjl
              have cg : wr.cell? ⟨pb, po + q, none⟩ = some (.int .i64 (gaps.getD q 0)) := by
                obtain ⟨b', o', e, h1, h2⟩ := Row.at_ HR2.out hjl
                cases e; exact (below_cell hb.out h1).trans h2
              have hl2 : (q : Int) < (j : Int) := by omega
              have hol : q < (Sh.bumps gaps L0 (Sh.firsts n gaps) q).2.length := by rw [Sh.bumps_length, Sh.firsts_length]; exact hjl
              obtain ⟨go, oo, rfl, hgo, co, -, -⟩ := hmn.out.store hlt
              rw [icells_get _ hol] at co
              have hst : Hid (∀ wy, Mine w0 wy 1 (.slice (some ⟨go, oo, none⟩) j d) j (icells (Sh.bumps gaps L0 (Sh.firsts n gaps) q).2) → wy.frozen? ⟨go, oo + q, none⟩ = false ∧ ∀ u, Mine w0 (wy.setCell ⟨go, oo + q, none⟩ u) 1 (.slice (some ⟨go, oo, none⟩) j d) j ((icells (Sh.bumps gaps L0 (Sh.firsts n gaps) q).2).set q u)) := Lib.hid fun wy hy => by
                obtain ⟨go', oo', e, -, -, f, s⟩ := hy.store hlt
                cases e
                exact ⟨f, s⟩
              have hx := Sh.bumps_at gaps L0 (Sh.firsts n gaps) q q (Nat.le_refl _)
              obtain ⟨o0, o1⟩ := hob.out q
              rw [← hx] at o0 o1
              have hbs : Hid (Sh.bumps gaps L0 (Sh.firsts n gaps) (q + 1) = if 0 < (Sh.bumps gaps L0 (Sh.firsts n gaps) q).1 ∧ (Sh.bumps gaps L0 (Sh.firsts n gaps) q).2.getD q 0 < gaps.getD q 0 then ((Sh.bumps gaps L0 (Sh.firsts n gaps) q).1 - 1, (Sh.bumps gaps L0 (Sh.firsts n gaps) q).2.set q ((Sh.bumps gaps L0 (Sh.firsts n gaps) q).2.getD q 0 + 1)) else Sh.bumps gaps L0 (Sh.firsts n gaps) q) := Lib.hid rfl
              have HGO := Lib.hid hgo
              clear hx hjl hol hgo
              obtain ⟨b, hbe⟩ : ∃ b, Sh.bumps gaps L0 (Sh.firsts n gaps) q = b := ⟨_, rfl⟩
              rw [hbe] at u0 u1 hmn co o0 o1 hbs hst ⊢
              obtain ⟨left, outs⟩ := b
              simp only at u0 u1 hmn co o0 o1 hbs hst ⊢
              clear hbe
              obtain ⟨x, hxe⟩ : ∃ x, outs.getD q 0 = x := ⟨_, rfl⟩
              obtain ⟨y, hye⟩ : ∃ y, gaps.getD q 0 = y := ⟨_, rfl⟩
              rw [hxe] at co o0 o1 hbs
              rw [hye] at cg hbs
              clear hxe hye
              have u2 : left ≤ 1048576 := by omega
              have u3 : -33554432 ≤ left := by omega
              clear u0 u1 hle hge
              by_cases hl : 0 < left
              · by_cases hxy : x < y
                · rw [if_pos ⟨hl, hxy⟩] at hbs
                  go_upto_region 21 with (fail)
                  go_quiet (fail)
                  go_upto_region 22 with (fail)
                  generalize hwy : World.drewN _ _ = wy
                  have hmy : Hid (Mine w0 wy 1 (.slice (some ⟨go, oo, none⟩) j d) j (icells outs)) := Lib.hid (by rw [← hwy]; exact hmn.out.drewN _)
                  have hby : Hid (Below w0.heap.size w0 wy) := Lib.hid (by rw [← hwy]; exact below_draw hb.out _)
                  replace co : wy.cell? ⟨go, oo + q, none⟩ = some (.int .i64 x) := by rw [← hwy]; exact co
                  obtain ⟨fo, hmz⟩ := hst.out wy hmy.out
                  replace hmz := Lib.hid (hmz (.int .i64 (x + 1)))
                  rw [icells_set] at hmz
                  clear hwy cg hmn hb
                  go_wp2
                  go_roundg (j + 1 - (q + 1))
                  case measure => omega
                  case rel => exact ⟨q + 1, rfl, by omega, by go_num, by rw [hbs.out], by rw [hbs.out]; exact hmz, Lib.hid (hby.out.setCell (p := ⟨go, oo + q, none⟩) HGO.out _)⟩
                · rw [if_neg fun h => hxy h.2] at hbs
                  have hxy' : y ≤ x := by omega
                  go_wp2
                  go_quiet (fail)
                  go_wp2
                  go_roundg (j + 1 - (q + 1))
                  case measure => omega
                  case rel => exact ⟨q + 1, rfl, by omega, by go_num, by rw [hbs.out], by rw [hbs.out]; exact Lib.hid (hmn.out.drewN _), Lib.hid (below_draw hb.out _)⟩
              · rw [if_neg fun h => hl h.1] at hbs
                have hl' : left ≤ 0 := by omega
                have hd : decide (0 < left) = false := by simpa using hl'
                go_wp2
                go_quiet (fail)
                go_wp2
                go_roundg (j + 1 - (q + 1))
                case measure => omega
                case rel => exact ⟨q + 1, rfl, by omega, by go_num, by rw [hbs.out], by rw [hbs.out]; exact Lib.hid (hmn.out.drewN _), Lib.hid (below_draw hb.out _)⟩
            · obtain rfl : q = j := by omega
              have hfin : Hid (Sh.shares n gaps = (Sh.bumps gaps L0 (Sh.firsts n gaps) q).2) := Lib.hid (by unfold Sh.shares; rw [hL0.out, HM.out])
              go_wp2
              go_ret2
              exact ⟨B, d, rfl, by rw [hfin.out]; exact hmn.out, hb.out⟩
theorem rshares_calls (w : World) (n : Int) (A : Option Addr) (m c : Nat) (gaps : List Int) (hm : gaps.length = m) (hm16 : m ≤ 16) (hg : ∀ g ∈ gaps, 0 ≤ g ∧ g ≤ 1048576) (hn : 0 ≤ n ∧ n ≤ 1048576) (hns : n ≤ gaps.sum) (hR : IRow w A gaps) :
    Calls Try.prog 13 #[.int .i64 n, .slice A m c] w fun e w' => ∃ B d, e = .returned (.tuple #[.slice B m d, .bool true]) ∧ IRow w' B (Sh.shares n gaps) ∧ Below w.heap.size w w' :=
  (rshares_mine w n A m c gaps hm hm16 hg hn hns hR).mono fun _ _ ⟨B, d, h1, h2, h3⟩ => ⟨B, d, h1, h2.irow, h3⟩
end Go.Proofs.Ytccmafmeblojpaa
