/- The walk of ClockShares: any number is parted among any gaps as the document says, or refused. -/
import Derived.Test.YtccmafmeblojpaaRShares
import Derived.Test.YtccmafmeblojpaaShOrd
import Derived.Test.YtccmafmeblojpaaInts
import Derived.Test.YtccmafmeblojpaaAwake
namespace Go.Proofs.Ytccmafmeblojpaa
open Go.RowKit
namespace Sh
theorem sum_zero : ∀ {l : List Int}, (∀ x ∈ l, x = 0) → l.sum = 0
  | [], _ => rfl
  | x :: l, h => by
    rw [List.sum_cons, h x (List.mem_cons_self ..), sum_zero fun y hy => h y (List.mem_cons_of_mem _ hy)]; rfl
theorem shares_nonneg {n : Int} {gaps : List Int} (hn : 0 ≤ n ∧ n ≤ 1048576) (h : ∀ g ∈ gaps, 0 ≤ g ∧ g ≤ 1048576) (j : Nat) : 0 ≤ (shares n gaps).getD j 0 := by
  by_cases hj : j < gaps.length
  · have hf : 0 ≤ (firsts n gaps).getD j 0 := by
      rw [firsts_at n gaps hj]
      have hmem : gaps.getD j 0 ∈ gaps := by rw [List.getD_eq_getElem?_getD, List.getElem?_eq_getElem hj]; exact List.getElem_mem _
      exact (first_bound hn (h _ hmem).1 (le_sum h hmem)).1
    rw [share_at n gaps hj]
    split <;> omega
  · rw [List.getD_eq_getElem?_getD, List.getElem?_eq_none (by rw [shares_length]; omega)]; simp
theorem shares_ok {n : Int} {gaps : List Int} (hn : 0 ≤ n ∧ n ≤ 1048576) (h : ∀ g ∈ gaps, 0 ≤ g ∧ g ≤ 1048576) (hnS : n ≤ gaps.sum) : (shares n gaps).sum = n ∧ ∀ j, (shares n gaps).getD j 0 ≤ gaps.getD j 0 := by
  have h0 : ∀ g ∈ gaps, 0 ≤ g := fun g hg => (h g hg).1
  by_cases hS : 0 < gaps.sum
  · exact ⟨shares_sum hn.1 h0 hS hnS, shares_le hn.1 h0 hS hnS⟩
  · have hz : n = 0 := by omega
    subst hz
    have hf : ∀ x ∈ firsts 0 gaps, x = 0 := fun x hx => by
      unfold firsts at hx
      obtain ⟨y, _, rfl⟩ := List.mem_map.1 hx
      unfold first
      rw [if_neg hS]
    have hs := sum_zero hf
    have hat : ∀ j, (firsts 0 gaps).getD j 0 = 0 := fun j => by
      rw [List.getD_eq_getElem?_getD]
      cases hj : (firsts 0 gaps)[j]? with
      | none => rfl
      | some x => exact hf x (List.mem_of_getElem? hj)
    have hb : ∀ i, (bumps gaps (0 - (firsts 0 gaps).sum) (firsts 0 gaps) i).1 ≤ 0 := fun i => by
      have := (bumps_bound gaps (0 - (firsts 0 gaps).sum) (firsts 0 gaps) i).2
      omega
    refine ⟨?_, fun j => ?_⟩
    · have h1 := bumps_sum gaps (0 - (firsts 0 gaps).sum) (firsts 0 gaps) gaps.length (by rw [firsts_length]; exact Nat.le_refl _)
      have h2 := bumps_left gaps (0 - (firsts 0 gaps).sum) (firsts 0 gaps) (by omega) gaps.length
      unfold shares
      rw [hs] at h1 h2 ⊢
      split at h2 <;> omega
    · by_cases hj : j < gaps.length
      · rw [share_at 0 gaps hj, if_neg (by have := hb j; omega), hat j]
        have hmem : gaps.getD j 0 ∈ gaps := by rw [List.getD_eq_getElem?_getD, List.getElem?_eq_getElem hj]; exact List.getElem_mem _
        exact h0 _ hmem
      · rw [List.getD_eq_getElem?_getD, List.getElem?_eq_none (by rw [shares_length]; omega), List.getD_eq_getElem?_getD, List.getElem?_eq_none (by omega)]; simp
end Sh
/-- What may not be parted. -/
def Bad (n : Int) (L : List Int) : Prop := 16 < L.length ∨ (∃ g ∈ L, g < 0 ∨ 1048576 < g) ∨ n < 0 ∨ 1048576 < n ∨ L.sum < n
theorem shares_bad (w : World) (n : Int) (A : Option Addr) (m c : Nat) (L : List Int) (hm : L.length = m) (hmx : m ≤ 17592186044415) (hA : IRow w A L) (hb : Bad n L) :
    Calls Try.prog 12 #[.int .i64 n, .slice A m c] w fun e w' => e = .returned (.tuple #[.slice none 0 0, .int .i64 1]) ∧ w = w' := by
  by_cases h : 16 < m
  · exact (shares_many w n A c m L hm h (by omega) hA).mono fun _ _ ⟨h1, h2⟩ => ⟨h1, h2.symm⟩
  · exact (shares_few w n A c m L hm (by omega) hA (hb.resolve_left (by omega))).mono fun _ _ ⟨h1, h2⟩ => ⟨h1, h2.symm⟩
theorem rshares_bad (w : World) (n : Int) (A : Option Addr) (m c : Nat) (L : List Int) (hm : L.length = m) (hmx : m ≤ 17592186044415) (hA : IRow w A L) (hb : Bad n L) :
    Calls Try.prog 13 #[.int .i64 n, .slice A m c] w fun e w' => e = .returned (.tuple #[.slice none 0 0, .bool false]) ∧ ∃ k, w' = w.drewN k := by
  by_cases h : 16 < m
  · exact (rshares_many w n A c m L hm h (by omega) hA).mono fun _ _ ⟨h1, h2⟩ => ⟨h1, 0, h2⟩
  · exact rshares_few w n A c m L hm (by omega) hA (hb.resolve_left (by omega))
theorem Blk.irow {w : World} {g : Nat} {L : List Int} (h : Blk w g 3 (icells L).toArray) : IRow w (some ⟨g, 0, none⟩) L := by
  refine .inr ⟨g, 0, rfl, h.lt, fun j hj => ?_⟩
  rw [Nat.zero_add, h.cell, List.getElem?_toArray, icells_get L hj]
set_option maxHeartbeats 4000000 in
set_option maxRecDepth 100000 in
theorem ClockShares_walk (w : World) (n : Int) (_h1 : (Lit.int .i64 n).wf = true) (A : Option Addr) (m c : Nat) (gaps : List Int) (hm : gaps.length = m) (hmx : m ≤ 17592186044415) (hR : IRow w A gaps) :
    Calls Try.prog 3 #[.int .i64 n, .slice A m c] w fun e w' => e = .returned (.bool true) ∧ Below w.heap.size w w' := by
  by_cases hbad : Bad n gaps
  · have HS := Lib.hid (shares_bad w n A m c gaps hm hmx hR hbad)
    have HQ := Lib.hid (rshares_bad w n A m c gaps hm hmx hR hbad)
    clear hR hbad hm hmx _h1
    go_enter Try.func3, Try.ntmps3
    go_wp2_with (first
      | (go_at_call 12; (with_reducible refine HS.out.mono ?_); rintro e w1 ⟨rfl, rfl⟩)
      | (go_at_call 13; (with_reducible refine HQ.out.mono ?_); rintro e w1 ⟨rfl, nd, rfl⟩)
      | (go_at_call 14; (with_reducible refine (awake_calls _).mono ?_); rintro e w1 ⟨rfl, hb⟩))
    go_ret
    exact ⟨rfl, (below_self w nd).trans hb⟩
  · have hm16 : m ≤ 16 := by
      rcases Nat.lt_or_ge 16 m with h | h
      · exact absurd (.inl (by omega)) hbad
      · exact h
    have hn : 0 ≤ n ∧ n ≤ 1048576 := by
      refine ⟨?_, ?_⟩
      · rcases Int.lt_or_le n 0 with h | h
        · exact absurd (.inr (.inr (.inl h))) hbad
        · exact h
      · rcases Int.lt_or_le 1048576 n with h | h
        · exact absurd (.inr (.inr (.inr (.inl h)))) hbad
        · exact h
    have hns : n ≤ gaps.sum := by
      rcases Int.lt_or_le gaps.sum n with h | h
      · exact absurd (.inr (.inr (.inr (.inr h)))) hbad
      · exact h
    have hg : ∀ g ∈ gaps, 0 ≤ g ∧ g ≤ 1048576 := fun g hg => by
      refine ⟨?_, ?_⟩
      · rcases Int.lt_or_le g 0 with h | h
        · exact absurd (.inr (.inl ⟨g, hg, .inl h⟩)) hbad
        · exact h
      · rcases Int.lt_or_le 1048576 g with h | h
        · exact absurd (.inr (.inl ⟨g, hg, .inr h⟩)) hbad
        · exact h
    have HS := Lib.hid (shares_calls w n A m c gaps hm hm16 hg hn hns (by unfold IRow at hR; rw [hm] at hR; exact hR))
    have HQ := Lib.hid (fun w1 (hb : Below w.heap.size w w1) => rshares_calls w1 n A m c gaps hm hm16 hg hn hns (hR.below hb))
    obtain ⟨L, hL⟩ : ∃ L, Sh.shares n gaps = L := ⟨_, rfl⟩
    have hLl : L.length = m := by rw [← hL, Sh.shares_length, hm]
    obtain ⟨hsum, hle⟩ := Sh.shares_ok hn hg hns
    have hge := Sh.shares_nonneg hn hg
    have hmore := fun i k (hi : i < m) (hk : k < m) (h : gaps.getD k 0 < gaps.getD i 0) => Sh.shares_more (n := n) (gaps := gaps) hn.1 (i := i) (k := k) (by omega) (by omega) h
    have halike := fun i k (hi : i < k) (hk : k < m) (h : gaps.getD i 0 = gaps.getD k 0) => Sh.shares_alike (n := n) (gaps := gaps) (i := i) (k := k) hi (by omega) h
    rw [hL] at hsum hle hge hmore halike HS HQ
    have hgd : ∀ j, 0 ≤ gaps.getD j 0 ∧ gaps.getD j 0 ≤ 1048576 := fun j => by
      rw [List.getD_eq_getElem?_getD]
      cases hj : gaps[j]? with
      | none => simp
      | some x => exact hg x (List.mem_of_getElem? hj)
    have HLB : Hid (∀ x ∈ L, 0 ≤ x ∧ x ≤ 1048576) := Lib.hid fun x hx => by
      obtain ⟨j, hj⟩ := List.getElem?_of_mem hx
      have h1 := hge j
      have h2 := hle j
      have h3 := hgd j
      rw [List.getD_eq_getElem?_getD (l := L), hj] at h1 h2
      simp only [Option.getD_some] at h1 h2
      omega
    have HNum := Lib.hid (fun w1 (go : Nat) B d (h1 : IRow w1 (some ⟨go, 0, none⟩) L) (h2 : IRow w1 B L) => numbers_same w1 (some ⟨go, 0, none⟩) B m d m L hLl (by omega) h1 h2)
    have HSum := Lib.hid (fun w1 (go : Nat) (h1 : IRow w1 (some ⟨go, 0, none⟩) L) => refsum_calls w1 (some ⟨go, 0, none⟩) m m L hLl (by omega) HLB.out h1)
    rw [hsum] at HSum
    have HLL := Lib.hid hLl
    have HLE := Lib.hid hle
    have HGE := Lib.hid hge
    have HMO := Lib.hid hmore
    have HAL := Lib.hid halike
    have HGD := Lib.hid hgd
    have HR := Lib.hid hR
    have HM := Lib.hid hm
    have hm16I : (m : Int) ≤ 16 := by omega
    clear hbad hns hg hm hR hL hLl hsum hle hge hmore halike hgd _h1 hmx hn
    go_enter Try.func3, Try.ntmps3
    go_upto_region 2 with (first | (go_at_call 12; (with_reducible refine HS.out.mono ?_); rintro e w1 ⟨go, rfl, hgo, hB1, hb1⟩))
    replace hB1 := Lib.hid hB1
    replace hb1 := Lib.hid hb1
    go_upto_region 3 with (first | (go_at_call 13; (with_reducible refine (HQ.out _ hb1.out).mono ?_); rintro e w2 ⟨B, d, rfl, hB2, hb2⟩))
    have hb3 : Hid (Below w.heap.size w w2) := Lib.hid (hb1.out.trans (hb2.mono hb1.out.size))
    replace hB2 := Lib.hid hB2
    replace hB1 : Hid (IRow w2 (some ⟨go, 0, none⟩) L) := Lib.hid (hB1.out.irow.below hb2)
    replace HR : Hid (IRow w2 A gaps) := Lib.hid (HR.out.below hb3.out)
    clear HS HQ hb2 hb1 hgo
    go_wp2_with (first
      | (go_at_call 15; (with_reducible refine (HNum.out _ _ _ _ hB1.out hB2.out).mono ?_); rintro e w3 ⟨rfl, nd, rfl⟩)
      | (go_at_call 16; (with_reducible refine (HSum.out _ _ (hB1.out.drewN _)).mono ?_); rintro e w3 ⟨rfl, nd2, rfl⟩))
    go_loopg [9] (m + 1) (fun gk s9 wr => ∃ i, gk = m + 1 - i ∧ i ≤ m ∧ s9 = .int .i64 (i : Int) ∧ Hid (∃ q, wr = w2.drewN q))
    case atStart => exact ⟨0, rfl, Nat.zero_le _, rfl, Lib.hid ⟨_, rfl⟩⟩
    case round =>
      obtain ⟨i, rfl, hi, rfl, hw⟩ := hrel
      have i0 : (0 : Int) ≤ (i : Int) := by omega
      by_cases hlt : i < m
      · have hltI : (i : Int) < (m : Int) := by omega
        obtain ⟨pb, po, rfl⟩ := HR.out.some (i := i) (by rw [HM.out]; exact hlt)
        have cg : wr.cell? ⟨pb, po + i, none⟩ = some (.int .i64 (gaps.getD i 0)) := by
          obtain ⟨q, rfl⟩ := hw.out
          exact HR.out.cell (by rw [HM.out]; exact hlt)
        have cl : wr.cell? ⟨go, i, none⟩ = some (.int .i64 (L.getD i 0)) := by
          obtain ⟨q, rfl⟩ := hw.out
          have := hB1.out.cell (i := i) (by rw [HLL.out]; exact hlt)
          rw [Nat.zero_add] at this
          exact this
        have l0 := HGE.out i
        have l1 := HLE.out i
        obtain ⟨g0, g1⟩ := HGD.out i
        have HMi := Lib.hid (fun k => HMO.out i k hlt)
        have HAi := Lib.hid (fun k => HAL.out i k)
        generalize hgi : gaps.getD i 0 = gi at cg l1 g0 g1 HMi HAi
        generalize hli : L.getD i 0 = li at cl l0 l1 HMi HAi
        have hd0 : decide (li < 0) = false := by simpa using l0
        have hd1 : decide (gi < li) = false := by simpa using l1
        clear hgi hli
        go_upto_region 10 with (fail)
        go_quiet (fail)
        go_upto_region 13 with (fail)
        generalize hwx : World.drewN _ _ = wx
        have hw2 : Hid (∃ q, wx = w2.drewN q) := Lib.hid (by obtain ⟨q, rfl⟩ := hw.out; exact ⟨_, by rw [← hwx, World.drewN_drewN]⟩)
        have hci : Hid (∀ w4, (∃ q, w4 = w2.drewN q) → w4.cell? ⟨pb, po + i, none⟩ = some (.int .i64 gi) ∧ w4.cell? ⟨go, i, none⟩ = some (.int .i64 li)) := Lib.hid fun w4 h4 => by
          obtain ⟨q, rfl⟩ := hw.out
          obtain ⟨q', rfl⟩ := h4
          exact ⟨cg, cl⟩
        clear hwx cg cl hw
        go_wp2
        go_loopg [10] (m + 1) (fun gk s10 wr => ∃ k, gk = m + 1 - k ∧ k ≤ m ∧ s10 = .int .i64 (k : Int) ∧ Hid (∃ q, wr = w2.drewN q))
        case atStart => exact ⟨0, rfl, Nat.zero_le _, rfl, hw2⟩
        case round =>
          clear hw2
          obtain ⟨k, rfl, hk, rfl, hw⟩ := hrel
          have k0 : (0 : Int) ≤ (k : Int) := by omega
          by_cases hlt2 : k < m
          · have hltI2 : (k : Int) < (m : Int) := by omega
            obtain ⟨cg, cl⟩ := hci.out _ hw.out
            have cg2 : wr.cell? ⟨pb, po + k, none⟩ = some (.int .i64 (gaps.getD k 0)) := by
              obtain ⟨q, rfl⟩ := hw.out
              exact HR.out.cell (by rw [HM.out]; exact hlt2)
            have cl2 : wr.cell? ⟨go, k, none⟩ = some (.int .i64 (L.getD k 0)) := by
              obtain ⟨q, rfl⟩ := hw.out
              have := hB1.out.cell (i := k) (by rw [HLL.out]; exact hlt2)
              rw [Nat.zero_add] at this
              exact this
            have hmo := HMi.out k hlt2
            have hal := fun h => HAi.out k h hlt2
            have lk0 := HGE.out k
            have lk1 : L.getD k 0 ≤ 1048576 := Int.le_trans (HLE.out k) (HGD.out k).2
            generalize gaps.getD k 0 = gk at cg2 hmo hal
            generalize L.getD k 0 = lk at cl2 hmo hal lk0 lk1
            have hnext : Hid (∀ nd, ∃ q, wr.drewN nd = w2.drewN q) := Lib.hid fun nd => by obtain ⟨q, rfl⟩ := hw.out; exact ⟨_, World.drewN_drewN _ _ _⟩
            have wl : IntKind.i64.wrap (li + 1) = li + 1 := by rw [IntKind.wrap_i64]; omega
            have wk : IntKind.i64.wrap (lk + 1) = lk + 1 := by rw [IntKind.wrap_i64]; omega
            by_cases h1 : gk < gi
            · have e1 : decide (li + 1 < lk) = false := by have := hmo h1; simpa using this
              have e2 : (gi == gk) = false := by simp; omega
              have e3 : ¬ gi = gk := by omega
              have e4 : decide (gk < gi) = true := by simpa using h1
              clear hmo hal
              go_wp2
              go_quiet (fail)
              go_wp2
              go_roundg (m + 1 - (k + 1))
              case measure => omega
              case rel => exact ⟨k + 1, rfl, by omega, by go_num, Lib.hid (hnext.out _)⟩
            · have e1 : decide (gk < gi) = false := by simpa using h1
              by_cases h2 : gi = gk
              · subst h2
                by_cases h3 : i < k
                · obtain ⟨a1, a2⟩ := hal h3 rfl
                  have e5 : decide (li < lk) = false := by simpa using a1
                  have e6 : decide (lk + 1 < li) = false := by simpa using a2
                  have e7 : (i : Int) < (k : Int) := by omega
                  clear hmo hal
                  go_wp2
                  go_quiet (fail)
                  go_wp2
                  go_roundg (m + 1 - (k + 1))
                  case measure => omega
                  case rel => exact ⟨k + 1, rfl, by omega, by go_num, Lib.hid (hnext.out _)⟩
                · have e7 : decide ((i : Int) < (k : Int)) = false := by simp; omega
                  clear hmo hal
                  go_wp2
                  go_quiet (fail)
                  go_wp2
                  go_roundg (m + 1 - (k + 1))
                  case measure => omega
                  case rel => exact ⟨k + 1, rfl, by omega, by go_num, Lib.hid (hnext.out _)⟩
              · have e2 : (gi == gk) = false := by simpa using h2
                clear hmo hal
                go_wp2
                go_quiet (fail)
                go_wp2
                go_roundg (m + 1 - (k + 1))
                case measure => omega
                case rel => exact ⟨k + 1, rfl, by omega, by go_num, Lib.hid (hnext.out _)⟩
          · obtain rfl : k = m := by omega
            go_wp2
            go_roundg (k + 1 - (i + 1))
            case measure => omega
            case rel => exact ⟨i + 1, rfl, by omega, by go_num, hw⟩
      · obtain rfl : i = m := by omega
        go_wp2_with (first
          | (go_at_call 14; (with_reducible refine (awake_calls _).mono ?_); rintro e w5 ⟨rfl, hb⟩))
        go_ret
        obtain ⟨q, rfl⟩ := hw.out
        exact ⟨rfl, (below_draw hb3.out q).trans (hb.mono hb3.out.size)⟩
end Go.Proofs.Ytccmafmeblojpaa
