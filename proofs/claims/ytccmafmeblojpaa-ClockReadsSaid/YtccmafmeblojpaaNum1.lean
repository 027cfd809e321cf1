/- The contract of the reader's number. -/
import Derived.Test.YtccmafmeblojpaaRd
import Derived.Test.YtccmafmeblojpaaBid
import Derived.BigRegion
namespace Go.Proofs.Ytccmafmeblojpaa
open Go.RowKit
set_option linter.unusedVariables false
set_option linter.unusedSimpArgs false
/-- The value that a reader gives up with. -/
def fault (e : Int) : Value := .iface 92 (.int .i64 e)
def NumTo (w : World) (gr : Nat) (s : ByteArray) (at0 : Nat) (e : Ending) (w' : World) : Prop :=
  Only (fun b => b = gr) w w' ∧ (match rdGo ((byt s).drop at0) 0 0 with
    | .ok n u => e = .returned (.int .i64 (n : Int)) ∧ Blk w' gr 90 #[.string s, .int .i64 ((at0 + u : Nat) : Int)]
    | .err er => e = .panicked [{ v := fault er, recovered := false }])
theorem numErr {w w' : World} {gr at0 er : Nat} {s : ByteArray} {x : Int} (h : rdGo ((byt s).drop at0) 0 0 = .err er) (hx : x = (er : Int)) (ho : Only (fun b => b = gr) w w') : NumTo w gr s at0 (.panicked [{ v := .iface 92 (.int .i64 x), recovered := false }]) w' := by
  subst hx
  refine ⟨ho, ?_⟩
  rw [h]; rfl
theorem numOk {w w' : World} {gr at0 n u : Nat} {s : ByteArray} {x : Int} (h : rdGo ((byt s).drop at0) 0 0 = .ok n u) (hx : x = (n : Int)) (ho : Only (fun b => b = gr) w w') (hb : Blk w' gr 90 #[.string s, .int .i64 ((at0 + u : Nat) : Int)]) : NumTo w gr s at0 (.returned (.int .i64 x)) w' := by
  subst hx
  refine ⟨ho, ?_⟩
  rw [h]; exact ⟨rfl, hb⟩
set_option maxHeartbeats 4000000 in
set_option maxRecDepth 20000 in
theorem rnum_calls (w : World) (gr : Nat) (s : ByteArray) (at0 : Nat) (hs : s.size ≤ 140737488351232) (ha : at0 ≤ s.size) (hB : Blk w gr 90 #[.string s, .int .i64 (at0 : Int)]) :
    Calls Try.prog 52 #[.pointer (some ⟨gr, 0, none⟩)] w (NumTo w gr s at0) := by
  have HB := Lib.hid hB
  clear hB
  go_enter Try.func52, Try.ntmps52
  go_wp2
  go_loopg [3, 4] 8 (fun gk s3 s4 wr => ∃ i n : Nat, gk = 8 - i ∧ i ≤ 7 ∧ s4 = .int .i64 (i : Int) ∧ s3 = .int .i64 (n : Int) ∧ Hid (n < 2 ^ (7 * i)) ∧ Hid (at0 + i ≤ s.size) ∧ Hid (Blk wr gr 90 #[.string s, .int .i64 ((at0 + i : Nat) : Int)]) ∧ Hid (Only (fun b => b = gr) w wr) ∧ Hid (rdGo ((byt s).drop (at0 + i)) i n = rdGo ((byt s).drop at0) 0 0))
  case atStart => exact ⟨0, 0, rfl, by omega, rfl, rfl, Lib.hid (by decide), Lib.hid ha, HB, Lib.hid (Only.refl _ _), Lib.hid rfl⟩
  case round =>
    clear HB
    obtain ⟨i, n, rfl, hi, rfl, rfl, hn, hat, hB, hO, hR⟩ := hrel
    obtain ⟨a, hae⟩ : ∃ a, Hid (at0 + i = a) := ⟨_, Lib.hid rfl⟩
    rw [hae.out] at hat hB hR
    have b0 : wr.cell? ⟨gr, 0, none⟩ = some (.string s) := hB.out.cell 0
    have b1 : wr.cell? ⟨gr, 1, none⟩ = some (.int .i64 (a : Int)) := hB.out.cell 1
    have f1 := hB.out.frozen 1
    have hale := hat.out
    have ha0 : (0 : Int) ≤ (a : Int) := by omega
    have i0 : (0 : Int) ≤ (i : Int) := by omega
    by_cases hend : s.size ≤ a
    · have hendI : (s.size : Int) ≤ (a : Int) := by omega
      have E : Hid (rdGo ((byt s).drop at0) 0 0 = .err 10) := Lib.hid (by rw [← hR.out, byt_drop_end s hend]; rfl)
      clear hale
      go_wp2
      go_quiet (fail)
      go_wp2
      exact ⟨rfl, numErr E.out rfl (hO.out.drewN _)⟩
    · have hlt : a < s.size := by omega
      have hltI : (a : Int) < (s.size : Int) := by omega
      have hdr := Lib.hid (byt_drop s hlt)
      obtain ⟨c, hc⟩ : ∃ c : Nat, (s[a] : UInt8).toNat = c := ⟨_, rfl⟩
      have hdr2 : Hid ((byt s).drop a = c :: (byt s).drop (a + 1)) := Lib.hid (by rw [hdr.out, hc])
      have hc256 : c < 256 := by rw [← hc]; exact (s[a] : UInt8).toNat_lt
      have hwc : wrap64 (c : Int) = (c : Int) := by unfold wrap64; omega
      have hwc2 : IntKind.i64.wrap (c : Int) = (c : Int) := by rw [IntKind.wrap_i64]; omega
      clear hdr
      go_upto_region 4 with (fail)
      go_quiet (fail)
      go_upto_region 6 with (fail)
      go_quiet (fail)
      clear hc
      have e1 : bits .and .i64 (c : Int) 127 = ((c % 128 : Nat) : Int) := and127 c hc256
      obtain ⟨r, hr⟩ : ∃ r, Hid (c % 128 = r) := ⟨_, Lib.hid rfl⟩
      rw [hr.out] at e1
      have hr128 : r < 128 := by rw [← hr.out]; omega
      have hp : 2 ^ (7 * i) ≤ 562949953421312 := Nat.le_trans (Nat.pow_le_pow_right (by omega) (show 7 * i ≤ 49 by omega)) (by decide)
      have hrp : Hid (r * 2 ^ (7 * i) ≤ 71494644084506624) := Lib.hid (Nat.le_trans (Nat.mul_le_mul (show r ≤ 127 by omega) hp) (by decide))
      have hyb : Hid (n + r * 2 ^ (7 * i) ≤ 72057594037927936) := Lib.hid (by have := hrp.out; have := hn.out; omega)
      have e2 : Hid (wrap64 ((r : Int) * 2 ^ (7 * i)) = ((r * 2 ^ (7 * i) : Nat) : Int)) := Lib.hid (by
        have h1 := hrp.out
        have h2 : ((r * 2 ^ (7 * i) : Nat) : Int) = (r : Int) * 2 ^ (7 * i) := by push_cast; rfl
        rw [← h2]
        unfold wrap64
        omega)
      have e3 : Hid (bits .or .i64 (n : Int) ((r * 2 ^ (7 * i) : Nat) : Int) = ((n + r * 2 ^ (7 * i) : Nat) : Int)) := Lib.hid (by
        rw [bits_or_nat _ _ (by have := hn.out; omega) (by have := hrp.out; omega), or_add _ _ _ hn.out])
      have hy2 : Hid (n + r * 2 ^ (7 * i) < 2 ^ (7 * (i + 1))) := Lib.hid (by
        have h1 := hn.out
        have h2 : r * 2 ^ (7 * i) ≤ 127 * 2 ^ (7 * i) := Nat.mul_le_mul_right _ (by omega)
        rw [show 7 * (i + 1) = 7 * i + 7 from by omega, Nat.pow_add]
        omega)
      have HY : Hid (∀ y, n + r * 2 ^ (7 * i) = y → (128 ≤ c → i = 7 → rdGo ((byt s).drop at0) 0 0 = .err 11) ∧ (128 ≤ c → i ≠ 7 → rdGo ((byt s).drop (a + 1)) (i + 1) y = rdGo ((byt s).drop at0) 0 0) ∧ (c < 128 → (c = 0 ∧ 0 < i ∨ 9007199254740992 < y) → rdGo ((byt s).drop at0) 0 0 = .err 11) ∧ (c < 128 → ¬ (c = 0 ∧ 0 < i ∨ 9007199254740992 < y) → rdGo ((byt s).drop at0) 0 0 = .ok y (i + 1))) := Lib.hid (by
        rintro y rfl
        have h := hR.out
        rw [hdr2.out, rdGo, hr.out, pow128] at h
        refine ⟨fun h1 h2 => ?_, fun h1 h2 => ?_, fun h1 h2 => ?_, fun h1 h2 => ?_⟩
        · rw [if_pos h1, if_pos h2] at h; exact h.symm
        · rw [if_pos h1, if_neg h2] at h; exact h
        · have e : c = r := by rw [← hr.out]; omega
          rw [if_neg (by omega), if_pos (by rw [← e] at h2; exact h2)] at h; exact h.symm
        · have e : c = r := by rw [← hr.out]; omega
          rw [if_neg (by omega), if_neg (by rw [← e] at h2; exact h2), e] at h; exact h.symm)
      have HO8 : ∀ nd, Only (fun b => b = gr) w ((wr.drewN nd).setCell ⟨gr, 1, none⟩ (.int .i64 ((a : Int) + 1))) := fun nd => (hO.out.drewN nd).setCell (.inl rfl) _
      have HB8 : ∀ nd, Blk ((wr.drewN nd).setCell ⟨gr, 1, none⟩ (.int .i64 ((a : Int) + 1))) gr 90 #[.string s, .int .i64 ((at0 + (i + 1) : Nat) : Int)] := fun nd => by
        rw [show at0 + (i + 1) = a + 1 from by have := hae.out; omega]
        exact ((hB.out.drewN nd).set_ 1 _)
      have HB8 := Lib.hid HB8
      have HO8 := Lib.hid HO8
      clear hp
      go_upto_region 9 with (fail)
      rw [e2.out, e3.out]
      obtain ⟨y, hy⟩ : ∃ y, Hid (n + r * 2 ^ (7 * i) = y) := ⟨_, Lib.hid rfl⟩
      rw [hy.out]
      rw [hy.out] at hyb hy2
      have HYy := Lib.hid (HY.out y hy.out)
      have hyb' := hyb.out
      generalize hW : World.setCell (World.drewN wr _) _ _ = w9
      have HBx : Hid (Blk w9 gr 90 #[.string s, .int .i64 ((at0 + (i + 1) : Nat) : Int)]) := Lib.hid (by rw [← hW]; exact HB8.out _)
      have HOx : Hid (Only (fun b => b = gr) w w9) := Lib.hid (by rw [← hW]; exact HO8.out _)
      have hat2 : Hid (at0 + (i + 1) ≤ s.size) := Lib.hid (by have := hae.out; omega)
      clear HY e1 b0 b1 f1 hW HB8 HO8 hr128 hwc hwc2 hltI hale ha0 hend hlt
      by_cases h128 : 128 ≤ c
      · have h128I : (128 : Int) ≤ (c : Int) := by omega
        by_cases h7 : i = 7
        · have E := Lib.hid (HYy.out.1 h128 h7)
          have h7I : (i : Int) = 7 := by omega
          clear h128 h7
          go_wp2
          exact ⟨rfl, numErr E.out rfl HOx.out⟩
        · have E := Lib.hid (HYy.out.2.1 h128 h7)
          have h7B : (i == 7) = false := by simpa using h7
          have h7BI : ((i : Int) == 7) = false := by simp; omega
          have hi2 : Hid (i + 1 ≤ 7) := Lib.hid (by omega)
          clear h128
          go_wp2
          go_roundg (8 - (i + 1))
          case measure => have := hi2.out; omega
          case rel => exact ⟨i + 1, y, rfl, hi2.out, by go_num, rfl, hy2, hat2, HBx, HOx, Lib.hid (by rw [← E.out]; have := hae.out; congr 2; omega)⟩
      · have h128I : (c : Int) < 128 := by omega
        have hcl : c < 128 := by omega
        by_cases hbad : c = 0 ∧ 0 < i ∨ 9007199254740992 < y
        · have E := Lib.hid (HYy.out.2.2.1 hcl hbad)
          by_cases hz : c = 0 ∧ 0 < i
          · obtain ⟨rfl, hz2⟩ := hz
            have hz3 : (0 : Int) < (i : Int) := by omega
            clear hbad h128 hcl
            go_wp2
            exact ⟨rfl, numErr E.out rfl HOx.out⟩
          · have hy53 : 9007199254740992 < y := by omega
            have hyI : (9007199254740992 : Int) < (y : Int) := by omega
            clear hbad h128 hcl
            by_cases hc0 : c = 0
            · subst hc0
              have hi0 : ¬ 0 < i := by omega
              have hi0I : ¬ (0 : Int) < (i : Int) := by omega
              clear hz
              go_wp2
              exact ⟨rfl, numErr E.out rfl HOx.out⟩
            · have hc0B : ((c : Int) == 0) = false := by simp; omega
              have hc0N : (c == 0) = false := by simpa using hc0
              clear hz
              go_wp2
              exact ⟨rfl, numErr E.out rfl HOx.out⟩
        · have E := Lib.hid (HYy.out.2.2.2 hcl hbad)
          have hy53 : y ≤ 9007199254740992 := by omega
          have hyI : (y : Int) ≤ 9007199254740992 := by omega
          by_cases hc0 : c = 0
          · subst hc0
            have hi0 : ¬ 0 < i := by omega
            have hi0I : ¬ (0 : Int) < (i : Int) := by omega
            clear hbad h128 hcl
            go_wp2
            go_ret
            exact numOk E.out rfl HOx.out HBx.out
          · have hc0B : ((c : Int) == 0) = false := by simp; omega
            have hc0N : (c == 0) = false := by simpa using hc0
            clear hbad h128 hcl
            go_wp2
            go_ret
            exact numOk E.out rfl HOx.out HBx.out
end Go.Proofs.Ytccmafmeblojpaa
