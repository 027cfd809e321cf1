/- The walk of the reference's padded: the words of the text with what stands behind it. -/
import Derived.Test.YtblgldllfllcpaaRef
import Derived.Lib.ConvBytes
import Derived.Deep.RegionHeld3
namespace Go.Proofs.Ytblgldllfllcpaa
open Go.RowKit
namespace Sp
def P1 (t : List Nat) (z : Nat) : List Nat := t ++ [128] ++ List.replicate z 0
theorem P1_succ (t : List Nat) (z : Nat) : P1 t (z + 1) = P1 t z ++ [0] := by
  unfold P1; rw [List.replicate_succ', List.append_assoc _ _ [0]]
def P2 (t : List Nat) (z j : Nat) : List Nat := P1 t z ++ (List.range j).map fun i => t.length * 8 / 2 ^ (56 - 8 * i) % 256
theorem P2_succ (t : List Nat) (z j : Nat) : P2 t z (j + 1) = P2 t z j ++ [t.length * 8 / 2 ^ (56 - 8 * j) % 256] := by
  unfold P2; rw [List.range_succ, List.map_append, List.append_assoc]; rfl
theorem P2_pad (t : List Nat) : P2 t (noughts t.length) 8 = pad t := rfl
/-- All words of a text. -/
def wordsUp (t : List Nat) (k : Nat) : List Nat := (List.range k).map (word4 t)
theorem wordsUp_succ (t : List Nat) (k : Nat) : wordsUp t (k + 1) = wordsUp t k ++ [word4 t k] := by
  unfold wordsUp; rw [List.range_succ, List.map_append]; rfl
theorem wordsUp_length (t : List Nat) (k : Nat) : (wordsUp t k).length = k := by simp [wordsUp]
end Sp
/-- The text's bytes, as they stand in new memory. -/
theorem mine_bytes (w : World) (s : ByteArray) (h : s.size ≤ grownCap w s.size 0 5) (hc : grownCap w s.size 0 5 ≤ maxLen) :
    Mine w (Lib.bytesWorld w 5 s) 1 (.slice (some ⟨w.heap.size, 0, none⟩) s.size (grownCap w s.size 0 5)) s.size (u8c (bts s)) ∧ Below w.heap.size w (Lib.bytesWorld w 5 s) := by
  have hn := Lib.bytesWorld_at_new w 5 s
  have hcs : (Lib.bytesCells w 5 s).size = grownCap w s.size 0 5 := by
    unfold Lib.bytesCells; simp; show s.size + _ = _; omega
  refine ⟨⟨some w.heap.size, ⟨by rw [u8c_length, bts_length, Nat.mul_one], _, _, rfl, h, hc, .inr ⟨w.heap.size, 0, rfl, rfl, by rw [Lib.bytesWorld_size]; omega, fun j hj => ⟨?_, ?_⟩, fun j hj => ?_⟩⟩, fun g e => by cases e; exact Nat.le_refl _⟩, ?_⟩
  · rw [Nat.zero_add]
    simp only [World.cell?, hn]
    simp
    omega
  · rw [Nat.zero_add]
    simp only [World.frozen?, hn]
    simp
    omega
  · rw [Nat.zero_add, Lib.bytesWorld_cell w _ s j (by omega)]
    unfold u8c bts
    rw [List.getElem?_map, List.getElem?_map]
    have hl : j < s.data.toList.length := by rw [Array.length_toList]; show j < s.size; omega
    rw [List.getD_eq_getElem?_getD, List.getElem?_eq_getElem hl]
    rfl
  · refine ⟨rfl, rfl, rfl, by rw [Lib.bytesWorld_size]; omega, fun k hk => Lib.bytesWorld_at_old w _ s k hk⟩
theorem info_int : (Try.prog.info? 3).map (fun i => (i.zero, i.size, i.bytes)) = some (some (.int .i64 0), 1, 8) := by kernel_rfl
set_option maxHeartbeats 4000000 in
set_option maxRecDepth 100000 in
theorem padded_calls (s : ByteArray) (w : World) (hsz : s.size ≤ 1099511627776) :
    Calls Try.prog 19 #[.string s] w fun e w' => ∃ A c n, e = .returned (.slice A n c) ∧ n = (Sp.pad (bts s)).length / 4 ∧ Mine w w' 1 (.slice A n c) n (i64c (Sp.wordsUp (Sp.pad (bts s)) n)) ∧ Below w.heap.size w w' := by
  obtain ⟨i0, hi0, hz0, hz1, hz2⟩ := info_parts info_u8
  have HI0 := Lib.hid hi0
  have HZ0 := Lib.hid hz0
  have HZ1 := Lib.hid hz1
  have HZ2 := Lib.hid hz2
  clear hi0 hz0 hz1 hz2
  have hcv := fun w => Lib.run_convert_string_bytes (P := Try.prog) w 9 34 5 s (u := .string) (by kernel_rfl) (by kernel_rfl) (by kernel_rfl)
  obtain ⟨t, ht⟩ : ∃ t, Hid (bts s = t) := ⟨_, Lib.hid rfl⟩
  have htl : Hid (t.length = s.size) := Lib.hid (by rw [← ht.out, bts_length])
  have hmb := Lib.hid (mine_bytes w s (grownCap_ge _ _ _ _) (grownCap_le_maxLen _ _ _ _ (by unfold maxLen; omega)))
  rw [ht.out]
  go_enter Try.func19, Try.ntmps19
  go_upto_region 2 with (fail)
  obtain ⟨hm1, hb1⟩ := hmb.out
  generalize grownCap w s.size 0 5 = C at hm1 hmb ⊢
  generalize Lib.bytesWorld w 5 s = w1 at hm1 hb1 hmb ⊢
  clear hcv hmb
  go_wp2_with (first
    | (refine wpList_append_mine rfl (.tmp 10) (.tmp 11) 34 34 rfl 5 i0 (.int .u8 0) 1 Try.underlying34 HI0.out HZ0.out HZ1.out HZ2.out rfl (by decide) rfl (hm1.alloc _) (hb1.alloc hb1.size _) _ 1 [.int .u8 128] rfl (src_new Try.underlying34 _ _ _ 1 1 rfl (by simp [Value.oneCell'])) (by unfold maxLen; omega) (by omega) ?_; intro A2 c2 w2 hm2 hb2))
  obtain ⟨n, hn⟩ : ∃ n, n = s.size := ⟨_, rfl⟩
  rw [← hn] at hm2 ⊢
  obtain ⟨Z, hZ⟩ : ∃ Z, Hid (Z = Sp.noughts t.length) := ⟨_, Lib.hid rfl⟩
  have hZ1 : (n + 1 + Z) % 64 = 56 := by have := hZ.out; have := htl.out; unfold Sp.noughts at *; omega
  have hZ2 : Z < 64 := by have := hZ.out; unfold Sp.noughts at *; omega
  have hnb : n ≤ 1099511627776 := by omega
  have hm2' : Hid (Mine w w2 1 (.slice A2 (n + 1 + 0) c2) (n + 1 + 0) (u8c (Sp.P1 t 0))) := Lib.hid (by unfold Sp.P1; rw [List.replicate_zero, List.append_nil, u8c_append, ← ht.out]; exact hm2)
  have hb2' := Lib.hid hb2
  have HN := Lib.hid hn
  clear hm1 hb1 hm2 hb2 hn hsz
  go_loopg [3] Z (fun gk s3 wr => ∃ z A c, gk = Z - z ∧ z ≤ Z ∧ s3 = .slice A (n + 1 + z) c ∧ Hid (Mine w wr 1 (.slice A (n + 1 + z) c) (n + 1 + z) (u8c (Sp.P1 t z))) ∧ Hid (Below w.heap.size w wr))
  case atStart => exact ⟨0, A2, c2, rfl, Nat.zero_le _, rfl, hm2', hb2'⟩
  case round =>
    clear hm2' hb2'
    obtain ⟨z, A, c, rfl, hz, rfl, hm, hb⟩ := hrel
    obtain ⟨m, hmm⟩ : ∃ m, n + 1 + z = m := ⟨_, rfl⟩
    rw [hmm] at hm ⊢
    have HM := Lib.hid hmm
    have ht0 : ((m : Nat) : Int).tmod 64 = ((m % 64 : Nat) : Int) := rfl
    have hmb2 : m < 1099511627900 := by omega
    by_cases hlt : z < Z
    · have hne : ¬ (((m % 64 : Nat) : Int) = 56) := by omega
      clear hmm
      go_wp2_with (first
        | (refine wpList_append_mine rfl (.tmp 17) (.tmp 18) 34 34 rfl 5 i0 (.int .u8 0) 1 Try.underlying34 HI0.out HZ0.out HZ1.out HZ2.out rfl (by decide) rfl (hm.out.alloc _) (hb.out.alloc hb.out.size _) _ 1 [.int .u8 0] rfl (src_new Try.underlying34 _ _ _ 1 1 rfl (by simp [Value.oneCell'])) (by unfold maxLen; omega) (by omega) ?_; intro A3 c3 w3 hm3 hb3))
      go_roundg (Z - (z + 1))
      case measure => omega
      case rel => exact ⟨z + 1, A3, c3, rfl, by omega, by rw [← HM.out]; rfl, Lib.hid (by rw [← Nat.add_assoc, HM.out, Sp.P1_succ, u8c_append]; exact hm3), Lib.hid hb3⟩
    · obtain rfl : z = Z := by omega
      have hne : ((m % 64 : Nat) : Int) = 56 := by omega
      clear hmm
      have hb8 : (8 : Int) * (s.size : Int) < 18446744073709551616 := by have := HN.out; omega
      have hsb : s.size ≤ 1099511627776 := by have := HN.out; omega
      go_upto_region 6 with (fail)
      obtain ⟨q8, hq8⟩ : ∃ q8, Hid (q8 = t.length * 8) := ⟨_, Lib.hid rfl⟩
      rw [show (8 : Int) * (s.size : Int) = (q8 : Int) from by have := hq8.out; have := htl.out; omega]
      have hm4 : Hid (Mine w wr 1 (.slice A (m + 0) c) (m + 0) (u8c (Sp.P2 t z 0))) := Lib.hid (by unfold Sp.P2; rw [List.range_zero, List.map_nil, List.append_nil]; exact hm.out)
      have hb4 := hb
      clear ht0 hne hsb hb8
      go_wp2
      go_loopg [3, 5] 9 (fun gk s3 s5 wr => ∃ j A c, gk = 9 - j ∧ j ≤ 8 ∧ s5 = .int .i64 (j : Int) ∧ s3 = .slice A (m + j) c ∧ Hid (Mine w wr 1 (.slice A (m + j) c) (m + j) (u8c (Sp.P2 t z j))) ∧ Hid (Below w.heap.size w wr))
      case atStart => exact ⟨0, A, c, rfl, Nat.zero_le _, by simp, rfl, hm4, hb4⟩
      case round =>
        clear hm hb hm4 hb4
        obtain ⟨j, A, c, rfl, hj, rfl, rfl, hm, hb⟩ := hrel
        obtain ⟨q, hqq⟩ : ∃ q, m + j = q := ⟨_, rfl⟩
        rw [hqq] at hm ⊢
        have hqb : q < 1099511628000 := by omega
        have HQ := Lib.hid hqq
        by_cases hlt : j < 8
        · obtain ⟨i, hi⟩ : ∃ i : Nat, 56 - 8 * (j : Int) = (i : Int) := ⟨56 - 8 * j, by omega⟩
          have hi7 : Hid (i = 56 - 8 * j) := Lib.hid (by omega)
          have hw8 : IntKind.i64.wrap (8 * (j : Int)) = 8 * (j : Int) := by rw [IntKind.wrap_i64]; omega
          have hw9 : IntKind.i64.wrap (i : Int) = (i : Int) := by rw [IntKind.wrap_i64]; omega
          have hi0 : (0 : Int) ≤ (i : Int) := by omega
          have him : min i 64 = i := by omega
          have j8 : (j : Int) < 8 := by omega
          have hw10 : IntKind.i64.wrap ((j : Int) + 1) = (j : Int) + 1 := by rw [IntKind.wrap_i64]; omega
          clear hqq
          go_wp2_with (first
            | (refine wpList_append_mine rfl (.tmp 27) (.tmp 34) 34 34 rfl 5 i0 (.int .u8 0) 1 Try.underlying34 HI0.out HZ0.out HZ1.out HZ2.out rfl (by decide) rfl (hm.out.alloc _) (hb.out.alloc hb.out.size _) _ 1 [.int .u8 ((q8 : Int) / 2 ^ i % 256)] rfl (src_new Try.underlying34 _ _ [.int .u8 ((q8 : Int) / 2 ^ i % 256)] 1 1 rfl (by simp [Value.oneCell'])) (by unfold maxLen; omega) (by omega) ?_; intro A3 c3 w3 hm3 hb3))
          go_roundg (9 - (j + 1))
          case measure => omega
          case rel => exact ⟨j + 1, A3, c3, rfl, by omega, by go_num, by rw [← HQ.out]; rfl, Lib.hid (by rw [← Nat.add_assoc, HQ.out, Sp.P2_succ, u8c_append, ← hi7.out, ← hq8.out]; exact hm3), Lib.hid hb3⟩
        · obtain rfl : j = 8 := by omega
          obtain ⟨T, hT⟩ : ∃ T, Hid (Sp.pad t = T) := ⟨_, Lib.hid rfl⟩
          have hm5 : Mine w wr 1 (.slice A q c) q (u8c T) := by
            have e := Sp.P2_pad t
            rw [← hZ.out, hT.out] at e
            rw [← e]; exact hm.out
          have hTl : Hid (T.length = q) := Lib.hid (by have := hm5.len; rw [u8c_length] at this; omega)
          have hq64 : q % 64 = 0 := by rw [← hTl.out, ← hT.out]; exact Sp.pad_mod t
          have hq0 : 0 < q := by omega
          have hlt : Hid (∀ x ∈ T, x < 256) := Lib.hid (by rw [← hT.out, ← ht.out]; exact Sp.pad_lt _ (bts_lt s))
          obtain ⟨Ap, cp, heq, hqc, _, hrow⟩ := hm5.row
          cases heq
          obtain ⟨pb, po, rfl, hpb, hcells⟩ : ∃ pb po, A = some ⟨pb, po, none⟩ ∧ pb < wr.heap.size ∧ ∀ i, i < q → wr.cell? ⟨pb, po + i, none⟩ = some (.int .u8 ((T.getD i 0 : Nat) : Int)) := by
            rcases hrow with h0 | ⟨pb, po, h1, h2, h3⟩
            · omega
            · refine ⟨pb, po, h1, h2, fun i hi => ?_⟩
              rw [h3 i (by omega)]
              exact congrArg some (u8c_at _ (by have := hTl.out; omega))
          have HC := Lib.hid hcells
          clear hcells hrow hm5 hm hqq hj hqc
          go_wp2
          obtain ⟨wo, rfl⟩ : ∃ x, x = wr := ⟨_, rfl⟩
          obtain ⟨i1, hi1, hy0, hy1, hy2⟩ := info_parts info_int
          have HI1 := Lib.hid hi1
          have HY0 := Lib.hid hy0
          have HY1 := Lib.hid hy1
          have HY2 := Lib.hid hy2
          clear hi1 hy0 hy1 hy2 HI0 HZ0 HZ1 HZ2
          have HQ64 := Lib.hid hq64
          clear hq64
          go_loopg [6, 7] (q / 4 + 1) (fun gk s6 s7 wr => ∃ k A c, gk = q / 4 + 1 - k ∧ k ≤ q / 4 ∧ s7 = .int .i64 ((4 * k : Nat) : Int) ∧ s6 = .slice A k c ∧ Hid (Mine wo wr 1 (.slice A k c) k (i64c (Sp.wordsUp T k))) ∧ Hid (Below wo.heap.size wo wr))
          case atStart => exact ⟨0, none, 0, rfl, Nat.zero_le _, rfl, rfl, Lib.hid (Mine.empty _ _ _ _), Lib.hid (Below.refl _ _)⟩
          case round =>
            obtain ⟨k, A, c', rfl, hk, rfl, rfl, hm, hbl⟩ := hrel
            obtain ⟨m, hmm⟩ : ∃ m, 4 * k = m := ⟨_, rfl⟩
            rw [hmm]
            have HM := Lib.hid hmm
            have hkb : k < 1099511628000 := by omega
            have hmq : m ≤ q := by omega
            by_cases hlt4 : m < q
            · have h3 : (m : Int) + 3 < (q : Int) := by have := HQ64.out; omega
              have HS : Hid (∀ w', Below wo.heap.size wo w' → w'.cell? ⟨pb, po + m, none⟩ = some (.int .u8 ((T.getD m 0 : Nat) : Int)) ∧ w'.cell? ⟨pb, po + (m + 1), none⟩ = some (.int .u8 ((T.getD (m + 1) 0 : Nat) : Int)) ∧
                  w'.cell? ⟨pb, po + (m + 2), none⟩ = some (.int .u8 ((T.getD (m + 2) 0 : Nat) : Int)) ∧ w'.cell? ⟨pb, po + (m + 3), none⟩ = some (.int .u8 ((T.getD (m + 3) 0 : Nat) : Int))) := Lib.hid fun w' hb' =>
                ⟨(hb'.cell (p := ⟨pb, po + m, none⟩) hpb).trans (HC.out m (by omega)), (hb'.cell (p := ⟨pb, po + (m + 1), none⟩) hpb).trans (HC.out (m + 1) (by omega)),
                  (hb'.cell (p := ⟨pb, po + (m + 2), none⟩) hpb).trans (HC.out (m + 2) (by omega)), (hb'.cell (p := ⟨pb, po + (m + 3), none⟩) hpb).trans (HC.out (m + 3) (by omega))⟩
              obtain ⟨c0, c1, c2, c3⟩ := HS.out wr hbl.out
              have hx : ∀ j, T.getD j 0 < 256 := fun j => by
                rw [List.getD_eq_getElem?_getD]
                cases hj : T[j]? with
                | none => simp
                | some x => exact hlt.out x (List.mem_of_getElem? hj)
              have x0 := hx m
              have x1 := hx (m + 1)
              have x2 := hx (m + 2)
              have x3 := hx (m + 3)
              have HW : Hid (T.getD m 0 * 16777216 + T.getD (m + 1) 0 * 65536 + T.getD (m + 2) 0 * 256 + T.getD (m + 3) 0 = Sp.word4 T k) := Lib.hid (by unfold Sp.word4; rw [HM.out])
              generalize T.getD m 0 = y0 at *
              generalize T.getD (m + 1) 0 = y1 at *
              generalize T.getD (m + 2) 0 = y2 at *
              generalize T.getD (m + 3) 0 = y3 at *
              clear hx hmm
              have m0 : (0 : Int) ≤ (m : Int) := by omega
              have p1 : (0 : Int) ≤ (m : Int) + 1 := by omega
              have p2 : (0 : Int) ≤ (m : Int) + 2 := by omega
              have p3 : (0 : Int) ≤ (m : Int) + 3 := by omega
              have l0 : (m : Int) < (q : Int) := by omega
              have l1 : (m : Int) + 1 < (q : Int) := by omega
              have l2 : (m : Int) + 2 < (q : Int) := by omega
              have hq2 : (q : Int) < 1099511628000 := by omega
              go_upto_region 14 with (fail)
              have w1 : IntKind.i64.wrap ((m : Int) + 1) = (m : Int) + 1 := by rw [IntKind.wrap_i64]; omega
              have w2 : IntKind.i64.wrap ((m : Int) + 2) = (m : Int) + 2 := by rw [IntKind.wrap_i64]; omega
              have w3 : IntKind.i64.wrap ((m : Int) + 3) = (m : Int) + 3 := by rw [IntKind.wrap_i64]; omega
              have t1 : ((m : Int) + 1).toNat = m + 1 := by omega
              have t2 : ((m : Int) + 2).toNat = m + 2 := by omega
              have t3 : ((m : Int) + 3).toNat = m + 3 := by omega
              have u0 : IntKind.i64.wrap (y0 : Int) = (y0 : Int) := by rw [IntKind.wrap_i64]; omega
              have u1 : IntKind.i64.wrap (y1 : Int) = (y1 : Int) := by rw [IntKind.wrap_i64]; omega
              have u2 : IntKind.i64.wrap (y2 : Int) = (y2 : Int) := by rw [IntKind.wrap_i64]; omega
              have u3 : IntKind.i64.wrap (y3 : Int) = (y3 : Int) := by rw [IntKind.wrap_i64]; omega
              have v0 : IntKind.i64.wrap ((y0 : Int) * 16777216) = (y0 : Int) * 16777216 := by rw [IntKind.wrap_i64]; omega
              have v1 : IntKind.i64.wrap ((y1 : Int) * 65536) = (y1 : Int) * 65536 := by rw [IntKind.wrap_i64]; omega
              have v2 : IntKind.i64.wrap ((y2 : Int) * 256) = (y2 : Int) * 256 := by rw [IntKind.wrap_i64]; omega
              have v3 : IntKind.i64.wrap ((y0 : Int) * 16777216 + (y1 : Int) * 65536) = (y0 : Int) * 16777216 + (y1 : Int) * 65536 := by rw [IntKind.wrap_i64]; omega
              have v4 : IntKind.i64.wrap ((y0 : Int) * 16777216 + (y1 : Int) * 65536 + (y2 : Int) * 256) = (y0 : Int) * 16777216 + (y1 : Int) * 65536 + (y2 : Int) * 256 := by rw [IntKind.wrap_i64]; omega
              have v5 : IntKind.i64.wrap ((y0 : Int) * 16777216 + (y1 : Int) * 65536 + (y2 : Int) * 256 + (y3 : Int)) = (y0 : Int) * 16777216 + (y1 : Int) * 65536 + (y2 : Int) * 256 + (y3 : Int) := by rw [IntKind.wrap_i64]; omega
              have HKB := Lib.hid hkb
              have HQ2 := Lib.hid hq2
              have HX := Lib.hid (And.intro x0 (And.intro x1 (And.intro x2 x3)))
              have w4 : IntKind.i64.wrap ((m : Int) + 4) = (m : Int) + 4 := by rw [IntKind.wrap_i64]; omega
              have W4 := Lib.hid w4
              clear hkb hq2 hqb hnb hmb2 x0 x1 x2 x3 w4 hmq
              go_region_held3 (fun w' => w'.cell? ⟨pb, po + m, none⟩ = some (.int .u8 (y0 : Int)) ∧ w'.cell? ⟨pb, po + (m + 1), none⟩ = some (.int .u8 (y1 : Int)) ∧ w'.cell? ⟨pb, po + (m + 2), none⟩ = some (.int .u8 (y2 : Int)) ∧ w'.cell? ⟨pb, po + (m + 3), none⟩ = some (.int .u8 (y3 : Int)))
                (first | exact HS.out _ hb3 | exact HS.out _ hbl.out.drew | exact HS.out _ hbl.out | exact HS.out _ (hbl.out.alloc hbl.out.size _).drew | exact HS.out _ (hbl.out.drew.alloc hbl.out.size _) | (trace_state; fail))
                ((refine step_append_mine (by rfl) _ _ 42 42 (by rfl) 3 i1 (.int .i64 0) 8 Try.underlying42 HI1.out HY0.out HY1.out HY2.out rfl (by decide) (by rfl) ((hm.out.alloc _).drew) ((hbl.out.alloc hbl.out.size _).drew) _ 1 [.int .i64 ((y0 : Int) * 16777216 + (y1 : Int) * 65536 + (y2 : Int) * 256 + (y3 : Int))] (by rfl) (src_new_drew Try.underlying42 wr _ [.int .i64 ((y0 : Int) * 16777216 + (y1 : Int) * 65536 + (y2 : Int) * 256 + (y3 : Int))] 1 1 rfl (by simp [Value.oneCell'])) (by have := HKB.out; unfold maxLen; omega) (by have := HKB.out; omega) ?_; intro A9 e9 W9 hm3 hb3))
              clear u0 u1 u2 u3 w1 w2 w3 t1 t2 t3 v0 v1 v2 v3 v4 v5 c0 c1 c2 c3
              have w4 := W4.out
              go_wp2
              go_roundg (q / 4 + 1 - (k + 1))
              case measure => omega
              case rel => exact ⟨k + 1, A9, e9, rfl, by have := HM.out; have := HQ64.out; omega, by rw [Nat.mul_add, HM.out]; rfl, rfl, Lib.hid (by rw [Sp.wordsUp_succ, i64c_append, ← HW.out]; exact hm3), Lib.hid hb3⟩
            · have h3 : ¬ ((m : Int) + 3 < (q : Int)) := by omega
              obtain rfl : k = q / 4 := by have := HM.out; have := HQ64.out; omega
              go_wp2
              go_ret
              refine ⟨_, _, _, rfl, by rw [hT.out, hTl.out], ?_, hb.out.trans (hbl.out.mono hb.out.size)⟩
              rw [hT.out]
              obtain ⟨b5, h5, h6⟩ := hm.out
              exact ⟨b5, h5, fun g hg => Nat.le_trans hb.out.size (h6 g hg)⟩
end Go.Proofs.Ytblgldllfllcpaa
