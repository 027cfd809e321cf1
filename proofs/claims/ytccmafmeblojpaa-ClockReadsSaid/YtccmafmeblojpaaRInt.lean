/- The contract of the reference's Int. -/
import Derived.Test.YtccmafmeblojpaaGet
namespace Go.Proofs.Ytccmafmeblojpaa
open Go.RowKit
set_option linter.unusedVariables false
set_option linter.unusedSimpArgs false
theorem next_lt {n r i : Nat} (hn : n < 2 ^ (7 * i)) (hr : r < 128) : n + r * 2 ^ (7 * i) < 2 ^ (7 * (i + 1)) := by
  have h2 : r * 2 ^ (7 * i) ≤ 127 * 2 ^ (7 * i) := Nat.mul_le_mul_right _ (by omega)
  rw [show 7 * (i + 1) = 7 * i + 7 from by omega, Nat.pow_add]
  omega
theorem rintErr {w w' : World} {s : ByteArray} {at0 er : Nat} {x : Int} (h : rdGo ((byt s).drop at0) 0 0 = .err er) (hx : x = (er : Int)) (hb : Below w.heap.size w w') : GetTo w s at0 (.returned (.tuple #[.int .i64 0, .int .i64 0, .int .i64 x])) w' := by
  subst hx
  refine ⟨hb, ?_⟩
  rw [h]
theorem rintOk {w w' : World} {s : ByteArray} {at0 n u : Nat} {x y : Int} (h : rdGo ((byt s).drop at0) 0 0 = .ok n u) (hx : x = (n : Int)) (hy : y = ((at0 + u : Nat) : Int)) (hb : Below w.heap.size w w') : GetTo w s at0 (.returned (.tuple #[.int .i64 x, .int .i64 y, .int .i64 0])) w' := by
  subst hx hy
  refine ⟨hb, ?_⟩
  rw [h]
set_option maxHeartbeats 8000000 in
set_option maxRecDepth 20000 in
theorem rint_calls (w : World) (s : ByteArray) (at0 : Nat) (hs : s.size ≤ 140737488351232) (ha : at0 ≤ s.size) :
    Calls Try.prog 47 #[.string s, .int .i64 (at0 : Int)] w (GetTo w s at0) := by
  have hat0 : (at0 : Int) ≤ 140737488351232 := by omega
  have a0 : (0 : Int) ≤ (at0 : Int) := by omega
  have hb : Hid (Below w.heap.size w w) := Lib.hid (Below.refl _ _)
  have hs' := Lib.hid hs
  go_enter Try.func47, Try.ntmps47
  go_wp2
  go_loopg [7, 8, 9] 9 (fun gk s7 s8 s9 wr => ∃ i n B : Nat, gk = 9 - i ∧ i ≤ 8 ∧ s9 = .int .i64 (i : Int) ∧ s7 = .int .i64 (n : Int) ∧ s8 = .int .i64 (B : Int) ∧ Hid (B = 2 ^ (7 * i)) ∧ Hid (n < 2 ^ (7 * i)) ∧ Hid (wr = w) ∧ Hid (i ≤ 7 → rdGo ((byt s).drop (at0 + i)) i n = rdGo ((byt s).drop at0) 0 0) ∧ Hid (7 < i → rdGo ((byt s).drop at0) 0 0 = .err 11))
  case atStart => exact ⟨0, 0, 1, rfl, by omega, rfl, rfl, rfl, Lib.hid (by decide), Lib.hid (by decide), Lib.hid rfl, Lib.hid fun _ => rfl, Lib.hid fun h => by omega⟩
  case round =>
    obtain ⟨i, n, B, rfl, hi, rfl, rfl, rfl, hB, hn, hw, hR, hR8⟩ := hrel
    obtain rfl := hw.out
    have i0 : (0 : Int) ≤ (i : Int) := by omega
    by_cases h8 : i < 8
    · have h8I : (i : Int) < 8 := by omega
      have hRi := Lib.hid (hR.out (by omega))
      have hBb : B ≤ 562949953421312 := by rw [hB.out]; exact Nat.le_trans (Nat.pow_le_pow_right (by omega) (show 7 * i ≤ 49 by omega)) (by decide)
      by_cases hend : s.size ≤ at0 + i
      · have hendI : (s.size : Int) ≤ (at0 : Int) + (i : Int) := by omega
        have E : Hid (rdGo ((byt s).drop at0) 0 0 = .err 10) := Lib.hid (by rw [← hRi.out, byt_drop_end s hend]; rfl)
        clear hs
        go_wp2
        go_ret3
        exact rintErr E.out rfl hb.out
      · have hlt : at0 + i < s.size := by omega
        have hltI : (at0 : Int) + (i : Int) < (s.size : Int) := by omega
        have hdr := byt_drop s hlt
        obtain ⟨c, hc⟩ : ∃ c : Nat, (s[at0 + i] : UInt8).toNat = c := ⟨_, rfl⟩
        have hdr2 : Hid ((byt s).drop (at0 + i) = c :: (byt s).drop (at0 + i + 1)) := Lib.hid (by rw [hdr, hc])
        have hc256 : c < 256 := by rw [← hc]; exact (s[at0 + i] : UInt8).toNat_lt
        have hwc : wrap64 (c : Int) = (c : Int) := by unfold wrap64; omega
        have hwc2 : IntKind.i64.wrap (c : Int) = (c : Int) := by rw [IntKind.wrap_i64]; omega
        have hc0I : (0 : Int) ≤ (c : Int) := by omega
        clear hdr hs
        go_upto_region 8 with (fail)
        obtain ⟨r, hr⟩ : ∃ r, Hid (c % 128 = r) := ⟨_, Lib.hid rfl⟩
        have hr128 : r < 128 := by rw [← hr.out]; omega
        have e1 : (c : Int).tmod 128 = (r : Int) := by rw [Int.tmod_eq_emod_of_nonneg hc0I, ← hr.out]; omega
        have e2 : (c : Int) % 128 = (r : Int) := by rw [← hr.out]; omega
        obtain ⟨z, hz⟩ : ∃ z, Hid (r * B = z) := ⟨_, Lib.hid rfl⟩
        have hz1 : z ≤ 71494644084506624 := by rw [← hz.out]; exact Nat.le_trans (Nat.mul_le_mul (show r ≤ 127 by omega) hBb) (by decide)
        have hzi : (r : Int) * (B : Int) = (z : Int) := by rw [← hz.out]; push_cast; rfl
        have q1 : IntKind.i64.wrap ((r : Int) * (B : Int)) = (z : Int) := by rw [hzi, IntKind.wrap_i64]; omega
        have q2 : wrap64 ((r : Int) * (B : Int)) = (z : Int) := by rw [hzi]; unfold wrap64; omega
        have hnb : n < 562949953421312 := by have := hn.out; rw [← hB.out] at this; exact Nat.lt_of_lt_of_le this hBb
        obtain ⟨y, hy⟩ : ∃ y, Hid (n + z = y) := ⟨_, Lib.hid rfl⟩
        have hyI : (n : Int) + (z : Int) = (y : Int) := by rw [← hy.out]; exact (Int.natCast_add n z).symm
        have hyb : y ≤ 72057594037927936 := by rw [← hy.out]; exact Nat.le_trans (Nat.add_le_add (Nat.le_of_lt hnb) hz1) (by decide)
        have hy2 : Hid (y < 2 ^ (7 * (i + 1))) := Lib.hid (by
          have h3 := hz.out
          rw [hB.out] at h3
          rw [← hy.out, ← h3]
          exact next_lt hn.out hr128)
        have hB2 : Hid (B * 128 = 2 ^ (7 * (i + 1))) := Lib.hid (by rw [hB.out, show 7 * (i + 1) = 7 * i + 7 from by omega, Nat.pow_add])
        have HY : Hid ((128 ≤ c → i = 7 → rdGo ((byt s).drop at0) 0 0 = .err 11) ∧ (128 ≤ c → i ≠ 7 → rdGo ((byt s).drop (at0 + i + 1)) (i + 1) y = rdGo ((byt s).drop at0) 0 0) ∧ (c < 128 → (c = 0 ∧ 0 < i ∨ 9007199254740992 < y) → rdGo ((byt s).drop at0) 0 0 = .err 11) ∧ (c < 128 → ¬ (c = 0 ∧ 0 < i ∨ 9007199254740992 < y) → rdGo ((byt s).drop at0) 0 0 = .ok y (i + 1))) := Lib.hid (by
          have h := hRi.out
          have h3 := hz.out
          rw [hB.out] at h3
          rw [hdr2.out, rdGo, hr.out, pow128, h3, hy.out] at h
          have hcr : c < 128 → c = r := fun hc => by rw [← hr.out]; omega
          refine ⟨fun h1 h2 => ?_, fun h1 h2 => ?_, fun h1 h2 => ?_, fun h1 h2 => ?_⟩
          · rw [if_pos h1, if_pos h2] at h; exact h.symm
          · rw [if_pos h1, if_neg h2] at h; exact h
          · have e := hcr h1
            have h5 : c * 2 ^ (7 * i) = z := by rw [e]; exact h3
            rw [if_neg (by omega), h5, hy.out, if_pos h2] at h; exact h.symm
          · have e := hcr h1
            have h5 : c * 2 ^ (7 * i) = z := by rw [e]; exact h3
            rw [if_neg (by omega), h5, hy.out, if_neg h2] at h; exact h.symm)
        clear hwc hwc2 hc hzi hltI hlt hend
        go_upto_region 10 with (fail)
        clear e1 e2 q1 q2
        by_cases h128 : 128 ≤ c
        · have h128I : (128 : Int) ≤ (c : Int) := by omega
          have H7 := Lib.hid (fun h7 => HY.out.1 h128 h7)
          have H7n := Lib.hid (fun h7 => HY.out.2.1 h128 h7)
          clear h128
          go_wp2
          go_roundg (9 - (i + 1))
          case measure => omega
          case rel => exact ⟨i + 1, y, B * 128, rfl, by omega, by go_num, rfl, by go_num, hB2, hy2, Lib.hid rfl, Lib.hid fun h7 => by rw [← H7n.out (by omega)]; rfl, Lib.hid fun h7 => H7.out (by omega)⟩
        · have h128I : (c : Int) < 128 := by omega
          have hcl : c < 128 := by omega
          by_cases hbad : c = 0 ∧ 0 < i ∨ 9007199254740992 < y
          · have E := Lib.hid (HY.out.2.2.1 hcl hbad)
            by_cases hz' : c = 0 ∧ 0 < i
            · obtain ⟨rfl, hz2⟩ := hz'
              have hz3 : (0 : Int) < (i : Int) := by omega
              clear hbad h128 hcl
              go_wp2
              go_ret3
              exact rintErr E.out rfl hb.out
            · have hy53 : 9007199254740992 < y := by omega
              have hyI2 : (9007199254740992 : Int) < (y : Int) := by omega
              clear hbad h128 hcl
              by_cases hc0 : c = 0
              · subst hc0
                have hi0 : ¬ 0 < i := by omega
                have hi0I : ¬ (0 : Int) < (i : Int) := by omega
                clear hz'
                go_wp2
                go_ret3
                exact rintErr E.out rfl hb.out
              · have hc0B : ((c : Int) == 0) = false := by simp; omega
                have hc0N : (c == 0) = false := by simpa using hc0
                clear hz'
                go_wp2
                go_ret3
                exact rintErr E.out rfl hb.out
          · have E := Lib.hid (HY.out.2.2.2 hcl hbad)
            have hy53 : y ≤ 9007199254740992 := by omega
            have hyI2 : (y : Int) ≤ 9007199254740992 := by omega
            by_cases hc0 : c = 0
            · subst hc0
              have hi0 : ¬ 0 < i := by omega
              have hi0I : ¬ (0 : Int) < (i : Int) := by omega
              clear hbad h128 hcl
              go_wp2
              go_ret3
              exact rintOk E.out rfl (by push_cast; omega) hb.out
            · have hc0B : ((c : Int) == 0) = false := by simp; omega
              have hc0N : (c == 0) = false := by simpa using hc0
              clear hbad h128 hcl
              go_wp2
              go_ret3
              exact rintOk E.out rfl (by push_cast; omega) hb.out
    · obtain rfl : i = 8 := by omega
      have E := Lib.hid (hR8.out (by omega))
      clear hs h8
      go_wp2
      go_ret3
      exact rintErr E.out rfl hb.out
end Go.Proofs.Ytccmafmeblojpaa
