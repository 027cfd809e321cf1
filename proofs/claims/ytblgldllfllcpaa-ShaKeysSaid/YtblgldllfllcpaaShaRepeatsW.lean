/- The walk of ShaRepeats: a text of one byte, so many times, has the same sum whole, in two parts, and byte by byte. -/
import Derived.Test.YtblgldllfllcpaaTwo
import Derived.Test.YtblgldllfllcpaaOwnK
import Derived.Outline
namespace Go.Proofs.Ytblgldllfllcpaa
open Go.RowKit
theorem ba_split (s : ByteArray) (i j : Nat) (hij : i ≤ j) : s.extract 0 i ++ s.extract i j = s.extract 0 j := by
  apply ByteArray.ext
  rw [ByteArray.data_append, ByteArray.data_extract, ByteArray.data_extract, ByteArray.data_extract]
  rw [Array.extract_append_extract]
  congr 1 <;> omega
theorem tmod_bound (a : Int) (b : Nat) (hb : 0 < b) : -(b : Int) < a.tmod b ∧ a.tmod b < b := by
  refine ⟨?_, ?_⟩
  · have := Int.lt_tmod_of_pos a (b := (b : Int)) (by omega); omega
  · exact Int.tmod_lt_of_pos a (by omega)
set_option maxHeartbeats 8000000 in
set_option maxRecDepth 100000 in
theorem ShaRepeats_walk (c : Int) (hc : (Lit.int .u8 c).wf = true) (n : Int) (_hn : (Lit.int .i64 n).wf = true) (cut : Int) (_hk : (Lit.int .i64 cut).wf = true) (w : World) :
    Calls Try.prog 7 #[.int .u8 c, .int .i64 n, .int .i64 cut] w fun e w' => e = .returned (.bool true) ∧ Below w.heap.size w w' := by
  obtain ⟨c, rfl⟩ : ∃ cN : Nat, c = (cN : Int) := ⟨c.toNat, by simp [Lit.wf] at hc; have : IntKind.u8.min = 0 := rfl; have : IntKind.u8.max = 255 := rfl; omega⟩
  have hc8 : c < 256 := by simp [Lit.wf] at hc; have : IntKind.u8.max = 255 := rfl; omega
  obtain ⟨q, hq⟩ : ∃ q, n.tmod 1001 = q := ⟨_, rfl⟩
  have hb1 := tmod_bound n 1001 (by omega)
  rw [show ((1001 : Nat) : Int) = 1001 from rfl, hq] at hb1
  obtain ⟨i0, hi0, hz0, hz1, hz2⟩ := info_parts info_u8
  have HI0 := Lib.hid hi0
  have HZ0 := Lib.hid hz0
  have HZ1 := Lib.hid hz1
  have HZ2 := Lib.hid hz2
  have HC := Lib.hid hc8
  clear hi0 hz0 hz1 hz2 hc hc8
  have hcase : ∃ sz : Nat, (q < 0 ∧ 0 - q = (sz : Int) ∨ ¬ q < 0 ∧ q = (sz : Int)) ∧ sz ≤ 1000 := ⟨q.natAbs, by omega, by omega⟩
  obtain ⟨sz, hcase, hs1⟩ := hcase
  obtain ⟨q2, hq2⟩ : ∃ q2, cut.tmod ((sz : Int) + 1) = q2 := ⟨_, rfl⟩
  have hb2 := tmod_bound cut (sz + 1) (by omega)
  rw [show ((sz + 1 : Nat) : Int) = (sz : Int) + 1 from by push_cast; rfl, hq2] at hb2
  have hcase2 : ∃ k : Nat, (q2 < 0 ∧ 0 - q2 = (k : Int) ∨ ¬ q2 < 0 ∧ q2 = (k : Int)) ∧ k ≤ sz := ⟨q2.natAbs, by omega, by omega⟩
  obtain ⟨k, hcase2, hk1⟩ := hcase2
  rcases hcase with ⟨hneg, hsz⟩ | ⟨hneg, rfl⟩
  all_goals
    go_enter Try.func7, Try.ntmps7
    go_wp2_with (first
      | (refine wpList_make_full w rfl _ _ 34 rfl w.heap.size 5 i0 (.int .u8 0) 1 Try.underlying34 HI0.out HZ0.out HZ1.out .i64 .i64 (sz : Int) (sz : Int) sz rfl rfl rfl rfl (by rw [HZ2.out]; omega) (by unfold maxLen; omega) (Nat.le_refl _) ?_; intro w5 how hgr))
    have hm5 := Lib.hid (Mine.of_ownsRow how)
    have hb5 := Lib.hid (below_grown (Below.refl _ _) hgr nofun)
    generalize (madeCells (Value.int .u8 0).cells (sz * 1)).toList = xs0 at hm5
    have hx0 : Hid (∀ j, j < 0 → xs0[j]? = some (.int .u8 (c : Int))) := Lib.hid fun j hj => by omega
    clear how hgr
    go_loopg [9] (sz + 1) (fun gk s9 wr => ∃ i xs, gk = sz + 1 - i ∧ i ≤ sz ∧ s9 = .int .i64 (i : Int) ∧ Hid (Mine w wr 1 (.slice (some ⟨w.heap.size, 0, none⟩) sz sz) sz xs) ∧ Hid (∀ j, j < i → xs[j]? = some (.int .u8 (c : Int))) ∧ Hid (Below w.heap.size w wr))
    case atStart => exact ⟨0, xs0, rfl, Nat.zero_le _, rfl, hm5, hx0, hb5⟩
    case round =>
      clear hm5 hx0 hb5
      obtain ⟨i, xs, rfl, hi, rfl, hm, hx, hb⟩ := hrel
      by_cases hlt : i < sz
      · obtain ⟨g, off, heq, _, hce, hfr, hset⟩ := hm.out.store hlt
        cases heq
        have hxl := hm.out.len
        obtain ⟨x, hxi⟩ : ∃ x, xs[i]? = some x := ⟨xs[i]'(by omega), by rw [List.getElem?_eq_getElem]⟩
        rw [hxi, Nat.zero_add] at hce
        rw [Nat.zero_add] at hfr
        have hset2 := Lib.hid (hset (.int .u8 (c : Int)))
        have hx2 : Hid (∀ j, j < i + 1 → (xs.set i (.int .u8 (c : Int)))[j]? = some (.int .u8 (c : Int))) := Lib.hid fun j hj => by
          by_cases e : i = j
          · subst e; rw [List.getElem?_set_self (by omega)]
          · rw [List.getElem?_set_ne e]; exact hx.out j (by omega)
        have i0 : (0 : Int) ≤ (i : Int) := by omega
        clear hxi hset hxl
        go_wp2
        go_roundg (sz + 1 - (i + 1))
        case measure => omega
        case rel => exact ⟨i + 1, _, rfl, by omega, by go_num, by have := hset2.out; rw [Nat.zero_add] at this; exact Lib.hid this, hx2, Lib.hid (hb.out.setCell (Nat.le_refl _) _)⟩
      · obtain rfl : i = sz := by omega
        have hcl : ∀ j, j < i → wr.cell? ⟨w.heap.size, 0 + j, none⟩ = some (.int .u8 ((List.replicate i (c : Int)).getD j 0)) := by
          intro j hj
          obtain ⟨b, ⟨_, A', c', heq, _, _, h3⟩, _⟩ := hm.out
          cases heq
          rcases h3 with ⟨_, h4⟩ | ⟨g, off, _, heq, _, _, h6⟩
          · omega
          · cases heq
            rw [h6 j (by omega), hx.out j hj, List.getD_eq_getElem?_getD, List.getElem?_replicate, if_pos hj]; rfl
        have hcv := run_convert_bytes_arg (P := Try.prog) wr 34 5 (by kernel_rfl) (by kernel_rfl) w.heap.size 0 i i (List.replicate i (c : Int)) (by simp) hcl 9 (by kernel_rfl)
        have hstz : Hid ((strOfNums (List.replicate i (c : Int))).size = i) := Lib.hid (by
          have := congrArg List.length (strOfNums_data (List.replicate i (c : Int)))
          simpa using this)
        generalize strOfNums (List.replicate i (c : Int)) = str at hcv hstz
        clear hcl hm hx hlt hi
        obtain ⟨wo, rfl⟩ : ∃ x, x = wr := ⟨_, rfl⟩
        have hke : k ≤ i := hk1
        have hk0 : (0 : Int) ≤ (k : Int) := by omega
        have hki : (k : Int) ≤ (i : Int) := by omega
        have hss : Hid (str.size ≤ 1000) := Lib.hid (by rw [hstz.out]; exact hs1)
        have hsk1 : k ≤ str.size := by rw [hstz.out]; exact hk1
        have hsk2 : (k : Int) ≤ (str.size : Int) := by omega
        obtain ⟨s1, hs1e⟩ : ∃ s1, Hid (str.extract 0 k = s1) := ⟨_, Lib.hid rfl⟩
        obtain ⟨s2, hs2e⟩ : ∃ s2, Hid (str.extract k str.size = s2) := ⟨_, Lib.hid rfl⟩
        have hsz1 : Hid (s1.size = k ∧ s2.size = str.size - k) := Lib.hid ⟨by rw [← hs1e.out, ByteArray.size_extract]; omega, by rw [← hs2e.out, ByteArray.size_extract]; omega⟩
        have hjoin : Hid ((⟨#[]⟩ : ByteArray) ++ s1 ++ s2 = str) := Lib.hid (by
          have e0 : (⟨#[]⟩ : ByteArray) ++ s1 = s1 := by apply ByteArray.ext; rw [ByteArray.data_append]; simp
          rw [e0, ← hs1e.out, ← hs2e.out, ba_split _ _ _ hsk1]
          apply ByteArray.ext; rw [ByteArray.data_extract]; simp)
        have HW1 : Hid ((⟨#[]⟩ : ByteArray).size + s1.size ≤ 1099511627776) := Lib.hid (by have := hsz1.out; have := hss.out; show 0 + s1.size ≤ _; omega)
        have HW2 : Hid (((⟨#[]⟩ : ByteArray) ++ s1).size + s2.size ≤ 1099511627776) := Lib.hid (by have := hsz1.out; have := hss.out; rw [ByteArray.size_append]; show 0 + s1.size + s2.size ≤ _; omega)
        rcases hcase2 with ⟨hneg2, hk⟩ | ⟨hneg2, rfl⟩
        all_goals
          go_upto_region 14 with (first
            | (go_at_call 13; (first | with_reducible refine (Two.second H1.out).mono ?_ | with_reducible refine (One.new _).mono ?_); (first | (rintro e w2 ⟨h, rfl, h2⟩; have H2 := Lib.hid h2; clear h2; have _tok : Hid (Two _ _ _ _ _ _) := H2) | (rintro e w1 ⟨g, rfl, h1⟩; have H1 := Lib.hid h1; clear h1; have _tok : Hid (One _ _ _ _) := H1))))
          go_upto_region 16 with (first
            | (go_at_call 15; (first
                | (rw [hs2e.out]; (with_reducible refine (H3.out.write s2 HW2.out).mono ?_); rintro e w1 ⟨rfl, ht⟩; rw [hjoin.out] at ht; have H4 := Lib.hid ht; clear ht)
                | (rw [hs1e.out]; (with_reducible refine (H2.out.write s1 HW1.out).mono ?_); rintro e w1 ⟨rfl, ht⟩; have H3 := Lib.hid ht; clear ht))))
          go_wp2
          have H5 : Hid (Two wo w1 g h str (str.extract 0 0)) := Lib.hid (by
            have e0 : str.extract 0 0 = ⟨#[]⟩ := by apply ByteArray.ext; rw [ByteArray.data_extract]; simp
            rw [e0]; exact H4.out)
          clear H2 H3 H4 hcv
          go_loopg [14] (i + 1) (fun gk s14 wr => ∃ j, gk = i + 1 - j ∧ j ≤ i ∧ s14 = .int .i64 (j : Int) ∧ Hid (Two wo wr g h str (str.extract 0 j)))
          case atStart => exact ⟨0, rfl, Nat.zero_le _, rfl, H5⟩
          case round =>
            clear H5
            obtain ⟨j, rfl, hj, rfl, HT⟩ := hrel
            by_cases hlt2 : j < i
            · have j0 : (0 : Int) ≤ (j : Int) := by omega
              have hj1 : (j : Int) + 1 ≤ (str.size : Int) := by have := hstz.out; omega
              have hj2 : j + 1 ≤ str.size := by have := hstz.out; omega
              have ht1 : ((j : Int) + 1).toNat = j + 1 := by omega
              have hj3 : (0 : Int) ≤ (j : Int) + 1 := by omega
              have hj4 : (j : Int) ≤ (j : Int) + 1 := by omega
              have hsp : Hid (str.extract 0 j ++ str.extract j (j + 1) = str.extract 0 (j + 1)) := Lib.hid (ba_split _ _ _ (by omega))
              go_wp2_with (first
                | (go_at_call 15; (with_reducible refine (HT.out.write2 (str.extract j (j + 1)) (by rw [ByteArray.size_extract, ByteArray.size_extract]; have := hss.out; omega)).mono ?_); rintro e w1 ⟨rfl, ht⟩; rw [hsp.out] at ht; have HT1 := Lib.hid ht; clear ht))
              go_roundg (i + 1 - (j + 1))
              case measure => omega
              case rel => exact ⟨j + 1, rfl, by omega, by go_num, HT1⟩
            · obtain rfl : j = i := by omega
              have HQ0 : Hid (Two wo wr g h str str) := Lib.hid (by
                have e0 : str.extract 0 j = str := by apply ByteArray.ext; rw [ByteArray.data_extract]; have := hstz.out; simp [← this]
                have := HT.out; rw [e0] at this; exact this)
              have hS : Hid (str.size ≤ 1099511627776) := Lib.hid (by have := hss.out; omega)
              obtain ⟨d, hD⟩ : ∃ d, Hid (dig str = d) := ⟨_, Lib.hid rfl⟩
              clear HT
              go_wp2_with (first
                | (go_at_call 14; (first | (with_reducible refine (HQ2.out.sum2 hS.out).mono ?_; rintro e w1 ⟨rfl, ht⟩; rw [hD.out]; have HQ3 := Lib.hid ht; clear ht) | (with_reducible refine (HQ0.out.sum hS.out).mono ?_; rintro e w1 ⟨rfl, ht⟩; rw [hD.out]; have HQ1 := Lib.hid ht; clear ht)))
                | (go_at_call 10; (first | (with_reducible refine (HQ4.out.ssum _ hS.out).mono ?_; rintro e w1 ⟨rfl, ht⟩; rw [hD.out]; have HQ5 := Lib.hid ht; clear ht) | (with_reducible refine (HQ3.out.ssum _ hS.out).mono ?_; rintro e w1 ⟨rfl, ht⟩; rw [hD.out]; have HQ4 := Lib.hid ht; clear ht) | (with_reducible refine (HQ1.out.ssum _ hS.out).mono ?_; rintro e w1 ⟨rfl, ht⟩; rw [hD.out]; have HQ2 := Lib.hid ht; clear ht)))
                | (go_at_call 11; ((with_reducible refine (HQ5.out.rsum _ hS.out).mono ?_); rintro e w1 ⟨rfl, ht⟩; rw [hD.out]; have HQ6 := Lib.hid ht; clear ht))
                | (go_at_call 12; ((with_reducible refine (HQ6.out.awake).mono ?_); rintro e w1 ⟨rfl, ht⟩; have HQ7 := Lib.hid ht; clear ht)))
              go_ret
              have h7 := HQ7.out.all
              exact ⟨rfl, below_next hb.out h7⟩
end Go.Proofs.Ytblgldllfllcpaa
