/- The walk of QuoteMedian: the median of any floats is that of the ones that are numbers, in whatever order they come. -/
import Derived.Test.YtgppjajkhdhcaaaQuoteBestW
namespace Go.Proofs.Ytgppjajkhdhcaaa
open Go.RowKit
theorem nums_rev (L : List Nat) : (Fl.nums L.reverse).Perm (Fl.nums L) := (List.reverse_perm L).filter _
theorem drop_rev {L : List Nat} {k j : Nat} (hL : L.length = k) (hj : j < k) : (L.drop (k - (j + 1))).reverse = (L.drop (k - j)).reverse ++ [L.getD (k - (j + 1)) 0] := by
  have hl : k - (j + 1) < L.length := by omega
  rw [List.drop_eq_getElem_cons hl, List.reverse_cons, List.getD_eq_getElem?_getD, List.getElem?_eq_getElem hl, show k - (j + 1) + 1 = k - j from by omega]; rfl
set_option maxHeartbeats 4000000 in
theorem QuoteMedian_walk (w : World) (A : Option Addr) (n c : Nat) (Z : Nat → Nat) (hZ : ∀ j, j < n → Z j < 18446744073709551616) (hnc : n ≤ c) (hcm : c ≤ maxLen) (hA : Row w A n fun j => .float .f64 (Z j)) :
    Calls Try.prog 5 #[.slice A n c] w fun e w' => e = .returned (.bool true) ∧ Below w.heap.size w w' := by
  obtain ⟨k, hk⟩ : ∃ k, (200 < n ∧ k = 200) ∨ (n ≤ 200 ∧ k = n) := by
    by_cases h : 200 < n
    · exact ⟨200, .inl ⟨h, rfl⟩⟩
    · exact ⟨n, .inr ⟨by omega, rfl⟩⟩
  have hkn : k ≤ n := by omega
  have hk200 : k ≤ 200 := by omega
  have hF := told_row hA hkn
  have hB := told_bound hZ hkn
  have hL := told_length Z k
  obtain ⟨L, hLe⟩ : ∃ L, told Z k = L := ⟨_, rfl⟩
  rw [hLe] at hF hB hL
  have hA0 : Hid (200 < n → ∃ b o, A = some ⟨b, o, none⟩) := Lib.hid fun h => by
    obtain ⟨b, o, e, _⟩ := Row.at_ hA (k := 0) (by omega)
    exact ⟨b, o, e⟩
  have HMx := Lib.hid hcm
  have HAl := Lib.hid (fun (x : Nat) w => alike_calls x x w true (Lib.hid (by simp)))
  have hRM := Lib.hid (fun w1 (hb : Below w.heap.size w w1) => refmedian_calls w1 A c k L hL (by omega) hB (hF.below hb))
  have hM1 := Lib.hid (fun w1 (hb : Below w.heap.size w w1) => median_calls w1 A c k L hL (by omega) hB (hF.below hb))
  have hrev : Fl.srt (Fl.nums L.reverse) = Fl.srt (Fl.nums L) := Fl.srt_of_perm (fun x hx => hB x (Fl.nums_mem.1 hx).1) (nums_rev L)
  have hM2 := Lib.hid (fun w1 B d (h : FRow w1 B L.reverse) => median_calls w1 B d k L.reverse (by rw [List.length_reverse, hL]) (by omega) (fun x hx => hB x (List.mem_reverse.1 hx)) h)
  rw [hrev] at hM2
  generalize Fl.med (Fl.srt (Fl.nums L)) = v at hRM hM1 hM2
  have HF := Lib.hid hF
  have HL := Lib.hid hL
  obtain ⟨i1, hi1, hy0, hy1, hy2⟩ := info_parts info_float
  have HI1 := Lib.hid hi1
  have HY0 := Lib.hid hy0
  have HY1 := Lib.hid hy1
  have HY2 := Lib.hid hy2
  clear hA hZ hLe hB hF hcm hkn hrev hL hi1 hy0 hy1 hy2
  rcases hk with ⟨h, rfl⟩ | ⟨h, rfl⟩
  · obtain ⟨b0, o0, rfl⟩ := hA0.out h
    have hI : (200 : Int) < (n : Int) := by omega
    have hI2 : (200 : Int) ≤ (c : Int) := by omega
    clear hA0
    go_enter Try.func5, Try.ntmps5
    go_wp2
    go_loopg [3, 4] 201 (fun gk s3 s4 wr => ∃ j B d, gk = 201 - j ∧ j ≤ 200 ∧ s4 = .int .i64 (199 - (j : Int)) ∧ s3 = .slice B j d ∧ Hid (Mine w wr 1 (.slice B j d) j (fcells (L.drop (200 - j)).reverse)) ∧ Hid (Below w.heap.size w wr))
    case atStart => exact ⟨0, none, 0, rfl, Nat.zero_le _, rfl, rfl, Lib.hid (by rw [show L.drop (200 - 0) = [] from List.drop_eq_nil_of_le (by rw [HL.out]; omega)]; exact Mine.empty _ _ _ _), Lib.hid (Below.refl _ _)⟩
    case round =>
      obtain ⟨j, B, d, rfl, hj, rfl, rfl, hmn, hbl⟩ := hrel
      by_cases hlt : j < 200
      · obtain ⟨q, hq⟩ : ∃ q : Nat, 199 - (j : Int) = (q : Int) := ⟨200 - (j + 1), by omega⟩
        have hq2 : Hid (q = 200 - (j + 1)) := Lib.hid (by omega)
        have hl : q < L.length := by rw [HL.out]; omega
        have c1 : wr.cell? ⟨b0, o0 + q, none⟩ = some (.float .f64 (L.getD q 0)) := by
          obtain ⟨b', o', e, h1, h2⟩ := Row.at_ HF.out hl
          cases e; exact (below_cell hbl.out h1).trans h2
        have hsn := Lib.hid (drop_rev HL.out hlt)
        rw [← hq2.out] at hsn
        rw [hq]
        have hp : (0 : Int) ≤ (q : Int) := by omega
        have hp2 : (q : Int) < 200 := by omega
        have hp7 : Hid ((q : Int) - 1 = 199 - ((j + 1 : Nat) : Int)) := Lib.hid (by omega)
        have hp8 : IntKind.i64.wrap ((q : Int) - 1) = (q : Int) - 1 := by rw [IntKind.wrap_i64]; omega
        generalize L.getD q 0 = y at c1 hsn
        clear hl hq
        go_wp2_with (first
          | (refine wpList_append_mine rfl (.tmp 18) (.tmp 23) 22 22 rfl 25 i1 (.float .f64 0) 8 Try.underlying22 HI1.out HY0.out HY1.out HY2.out rfl (by decide) rfl (hmn.out.alloc _) (hbl.out.alloc hbl.out.size _) _ 1 [.float .f64 y] rfl (src_new Try.underlying22 _ _ _ 1 1 rfl (by simp [Value.oneCell'])) (by unfold maxLen; omega) (by omega) ?_; intro A3 c3 w3 hm3 hb3))
        go_roundg (201 - (j + 1))
        case measure => omega
        case rel => exact ⟨j + 1, A3, c3, rfl, by omega, by rw [hp7.out], rfl, Lib.hid (by rw [← hq2.out, hsn.out, fcells_append]; exact hm3), Lib.hid hb3⟩
      · obtain rfl : j = 200 := by omega
        have hfr : Hid (FRow wr B L.reverse) := Lib.hid (by have := hmn.out.frow; rwa [show 200 - 200 = 0 from rfl, List.drop_zero] at this)
        clear hmn
        go_upto_region 9 with (first | (go_at_call 12; (with_reducible refine (hM1.out _ hbl.out).mono ?_); rintro e w1 ⟨rfl, hb1⟩))
        have hbl1 : Hid (Below w.heap.size w w1) := Lib.hid (hbl.out.trans (hb1.mono hbl.out.size))
        replace hfr : Hid (FRow w1 B L.reverse) := Lib.hid (hfr.out.below hb1)
        clear hb1 hbl
        go_wp2_with (first
          | (go_at_call 13; (with_reducible refine (hRM.out _ hbl1.out).mono ?_); rintro e w2 ⟨rfl, hb2⟩; have hbl2 : Hid (Below w.heap.size w w2) := Lib.hid (hbl1.out.trans (hb2.mono hbl1.out.size)); have hfr2 : Hid (FRow w2 B L.reverse) := Lib.hid (hfr.out.below hb2); clear hb2)
          | (go_at_call 12; (with_reducible refine (hM2.out _ _ _ hfr2.out).mono ?_); rintro e w3 ⟨rfl, hb3⟩; have hbl3 : Hid (Below w.heap.size w w3) := Lib.hid (hbl2.out.trans (hb3.mono hbl2.out.size)); clear hb3)
          | (go_at_call 8; (with_reducible refine (HAl.out _ _).mono ?_); rintro e w4 ⟨rfl, rfl⟩)
          | (go_at_call 9; (with_reducible refine (awake_calls _).mono ?_); rintro e w4 ⟨rfl, nd, rfl⟩))
        go_ret
        exact ⟨rfl, below_draw hbl3.out _⟩
  · have hI : (k : Int) ≤ 200 := by omega
    clear hA0
    go_enter Try.func5, Try.ntmps5
    go_wp2
    go_loopg [3, 4] (k + 1) (fun gk s3 s4 wr => ∃ j B d, gk = k + 1 - j ∧ j ≤ k ∧ s4 = .int .i64 ((k : Int) - 1 - (j : Int)) ∧ s3 = .slice B j d ∧ Hid (Mine w wr 1 (.slice B j d) j (fcells (L.drop (k - j)).reverse)) ∧ Hid (Below w.heap.size w wr))
    case atStart => exact ⟨0, none, 0, rfl, Nat.zero_le _, by first | rfl | go_num, rfl, Lib.hid (by rw [show L.drop (k - 0) = [] from List.drop_eq_nil_of_le (by rw [HL.out]; omega)]; exact Mine.empty _ _ _ _), Lib.hid (Below.refl _ _)⟩
    case round =>
      obtain ⟨j, B, d, rfl, hj, rfl, rfl, hmn, hbl⟩ := hrel
      by_cases hlt : j < k
      · obtain ⟨q, hq⟩ : ∃ q : Nat, (k : Int) - 1 - (j : Int) = (q : Int) := ⟨k - (j + 1), by omega⟩
        have hq2 : Hid (q = k - (j + 1)) := Lib.hid (by omega)
        have hl : q < L.length := by rw [HL.out]; omega
        obtain ⟨b0, o0, rfl⟩ := HF.out.some hl
        have c1 : wr.cell? ⟨b0, o0 + q, none⟩ = some (.float .f64 (L.getD q 0)) := by
          obtain ⟨b', o', e, h1, h2⟩ := Row.at_ HF.out hl
          cases e; exact (below_cell hbl.out h1).trans h2
        have hsn := Lib.hid (drop_rev HL.out hlt)
        rw [← hq2.out] at hsn
        rw [hq]
        have hp : (0 : Int) ≤ (q : Int) := by omega
        have hp2 : (q : Int) < (k : Int) := by omega
        have hp7 : Hid ((q : Int) - 1 = (k : Int) - 1 - ((j + 1 : Nat) : Int)) := Lib.hid (by omega)
        have hp8 : IntKind.i64.wrap ((q : Int) - 1) = (q : Int) - 1 := by rw [IntKind.wrap_i64]; omega
        generalize L.getD q 0 = y at c1 hsn
        clear hl hq
        go_wp2_with (first
          | (refine wpList_append_mine rfl (.tmp 18) (.tmp 23) 22 22 rfl 25 i1 (.float .f64 0) 8 Try.underlying22 HI1.out HY0.out HY1.out HY2.out rfl (by decide) rfl (hmn.out.alloc _) (hbl.out.alloc hbl.out.size _) _ 1 [.float .f64 y] rfl (src_new Try.underlying22 _ _ _ 1 1 rfl (by simp [Value.oneCell'])) (by unfold maxLen; omega) (by omega) ?_; intro A3 c3 w3 hm3 hb3))
        go_roundg (k + 1 - (j + 1))
        case measure => omega
        case rel => exact ⟨j + 1, A3, c3, rfl, by omega, by rw [hp7.out], rfl, Lib.hid (by rw [← hq2.out, hsn.out, fcells_append]; exact hm3), Lib.hid hb3⟩
      · obtain rfl : j = k := by omega
        have hfr : Hid (FRow wr B L.reverse) := Lib.hid (by have := hmn.out.frow; rwa [Nat.sub_self, List.drop_zero] at this)
        have hneg : (j : Int) - 1 - (j : Int) < 0 := by omega
        have hneg2 : (j : Int) - 1 - (j : Int) = -1 := by omega
        rw [hneg2]
        clear hmn hneg hneg2 hlt
        go_upto_region 9 with (first | (go_at_call 12; (with_reducible refine (hM1.out _ hbl.out).mono ?_); rintro e w1 ⟨rfl, hb1⟩))
        have hbl1 : Hid (Below w.heap.size w w1) := Lib.hid (hbl.out.trans (hb1.mono hbl.out.size))
        replace hfr : Hid (FRow w1 B L.reverse) := Lib.hid (hfr.out.below hb1)
        clear hb1 hbl
        go_wp2_with (first
          | (go_at_call 13; (with_reducible refine (hRM.out _ hbl1.out).mono ?_); rintro e w2 ⟨rfl, hb2⟩; have hbl2 : Hid (Below w.heap.size w w2) := Lib.hid (hbl1.out.trans (hb2.mono hbl1.out.size)); have hfr2 : Hid (FRow w2 B L.reverse) := Lib.hid (hfr.out.below hb2); clear hb2)
          | (go_at_call 12; (with_reducible refine (hM2.out _ _ _ hfr2.out).mono ?_); rintro e w3 ⟨rfl, hb3⟩; have hbl3 : Hid (Below w.heap.size w w3) := Lib.hid (hbl2.out.trans (hb3.mono hbl2.out.size)); clear hb3)
          | (go_at_call 8; (with_reducible refine (HAl.out _ _).mono ?_); rintro e w4 ⟨rfl, rfl⟩)
          | (go_at_call 9; (with_reducible refine (awake_calls _).mono ?_); rintro e w4 ⟨rfl, nd, rfl⟩))
        go_ret
        exact ⟨rfl, below_draw hbl3.out _⟩
end Go.Proofs.Ytgppjajkhdhcaaa
