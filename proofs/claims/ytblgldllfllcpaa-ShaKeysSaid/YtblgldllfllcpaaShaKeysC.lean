/- The walk of ShaKeys: one of the four ways in which key and text are cut. -/
import Derived.Test.YtblgldllfllcpaaShaKeysP
namespace Go.Proofs.Ytblgldllfllcpaa
open Go.RowKit
set_option maxHeartbeats 4000000 in
theorem keysC (key : ByteArray) (_hk : key.size ≤ 140737488351232) (s : ByteArray) (_hs : s.size ≤ 140737488351232) (more : Int) (_hm : (Lit.int .i64 more).wf = true) (w : World) (h1 : ¬ 4096 < key.size) (h2 : 4096 < s.size) :
    Calls Try.prog 9 #[.string key, .string s, .int .i64 more] w fun e w' => e = .returned (.bool true) ∧ Below w.heap.size w w' := by
  obtain ⟨k, hk⟩ : ∃ k, Hid (cutTo key 4096 = k) := ⟨_, Lib.hid rfl⟩
  obtain ⟨t, ht⟩ : ∃ t, Hid (cutTo s 4096 = t) := ⟨_, Lib.hid rfl⟩
  have hks : Hid (k.size ≤ 4096) := Lib.hid (by rw [← hk.out]; exact cutTo_size _ _)
  have hts : Hid (t.size ≤ 4096) := Lib.hid (by rw [← ht.out]; exact cutTo_size _ _)
  have H1 := Lib.hid (fun w => smac_calls k t w (by have := hks.out; omega) (by have := hts.out; omega))
  have H2 := Lib.hid (fun w => rmac_calls k t w (by have := hks.out; omega) (by have := hts.out; omega))
  have H3 := Lib.hid (fun w => ssum_calls k w (by have := hks.out; omega))
  have H4 := Lib.hid (fun w => smac_calls (dig k) t w (by rw [dig_size]; omega) (by have := hts.out; omega))
  have hmd : Hid (64 < k.size → mac (dig k) t = mac k t) := Lib.hid (mac_dig k t)
  have H5 := Lib.hid (fun (n : Nat) (hn : k.size + n ≤ 64) w => smac_calls (k ++ nought n) t w (by rw [ByteArray.size_append, nought_size]; omega) (by have := hts.out; omega))
  have hmn := Lib.hid (fun (n : Nat) (hn : k.size + n ≤ 64) => mac_nought k t n hn)
  obtain ⟨d, hd⟩ : ∃ d, Hid (mac k t = d) := ⟨_, Lib.hid rfl⟩
  rw [hd.out] at H1 H2
  obtain ⟨i0, hi0, hz0, hz1, hz2⟩ := info_parts info_u8
  have HI0 := Lib.hid hi0
  have HZ0 := Lib.hid hz0
  have HZ1 := Lib.hid hz1
  have HZ2 := Lib.hid hz2
  clear hi0 hz0 hz1 hz2 _hk _hs _hm
  have ek : Hid (cutTo key 4096 = k) := hk
  have et : Hid (cutTo s 4096 = t) := ht
  unfold cutTo at ek et
  replace ek := ek.out
  replace et := et.out
  rw [if_neg h1] at ek
  rw [if_pos h2] at et
  have i1 : ¬ (4096 : Int) < (key.size : Int) := by omega
  have i2 : (4096 : Int) < (s.size : Int) := by omega
  replace ek := Lib.hid ek
  replace et := Lib.hid et
  clear hk ht
  by_cases hbig : 64 < k.size
  · have hbi : (64 : Int) < (k.size : Int) := by omega
    have e4 := hmd.out hbig
    rw [e4, hd.out] at H4
    generalize dig k = dk at H3 H4
    clear e4 H5 hmn hmd
    go_enter Try.func9, Try.ntmps9
    go_upto_region 5 with (fail)
    rw [ek.out, et.out]
    go_wp2_with (first
      | (go_at_call 16; (first | ((with_reducible refine (H4.out _).mono ?_); rintro e w3 ⟨rfl, hb3⟩) | ((with_reducible refine (H1.out _).mono ?_); rintro e w1 ⟨rfl, hb⟩; first | (have hb4 := hb; have _t := hb3; clear hb) | (have hb1 := hb; clear hb))))
      | (go_at_call 10; (with_reducible refine (H3.out _).mono ?_); rintro e w2 ⟨rfl, hb2⟩)
      | (go_at_call 17; (with_reducible refine (H2.out _).mono ?_); rintro e w5 ⟨rfl, hb5⟩)
      | (go_at_call 12; (with_reducible refine (awake_calls _).mono ?_); rintro e w6 ⟨rfl, hb6⟩))
    go_ret
    exact ⟨rfl, below_next (below_next (below_next (below_next (below_next hb1 hb2) hb3) hb4) hb5) hb6⟩
  · have hbi : ¬ (64 : Int) < (k.size : Int) := by omega
    obtain ⟨q, hq⟩ : ∃ q, more.tmod (65 - (k.size : Int)) = q := ⟨_, rfl⟩
    have hq1 := tmod_bound more (65 - k.size) (by omega)
    rw [show ((65 - k.size : Nat) : Int) = 65 - (k.size : Int) from by omega, hq] at hq1
    have hcase : ∃ n : Nat, (q < 0 ∧ 0 - q = (n : Int) ∨ ¬ q < 0 ∧ q = (n : Int)) ∧ k.size + n ≤ 64 := ⟨q.natAbs, by omega, by omega⟩
    obtain ⟨n, hcase, hn⟩ := hcase
    have h5 := Lib.hid (H5.out n hn)
    have e5 := hmn.out n hn
    rw [e5, hd.out] at h5
    have hadd := fun w => run_string_add_sum (P := Try.prog) w k (nought n) (by rw [nought_size]; omega)
    have hk0 : (0 : Int) < 65 - (k.size : Int) := by omega
    have hcv : Hid (∀ w' : World, Mine w w' 1 (.slice (some ⟨w.heap.size, 0, none⟩) n n) n (List.replicate n (Value.int .u8 0)) → (convert 34 9 (.slice (some ⟨w.heap.size, 0, none⟩) n n)).run Try.prog w' = .ok (.string (nought n)) w') := Lib.hid fun w' hm => by
      refine run_convert_bytes_arg (P := Try.prog) w' 34 5 (by kernel_rfl) (by kernel_rfl) w.heap.size 0 n n (List.replicate n 0) (by simp) (fun j hj => ?_) 9 (by kernel_rfl)
      obtain ⟨b, ⟨_, A', c', heq, _, _, h3⟩, _⟩ := hm
      cases heq
      rcases h3 with ⟨_, h4⟩ | ⟨g, off, _, heq, _, _, h6⟩
      · omega
      · cases heq
        rw [h6 j (by omega), List.getElem?_replicate, if_pos hj, List.getD_eq_getElem?_getD, List.getElem?_replicate, if_pos hj]; rfl
    generalize nought n = z at h5 hadd hcv
    clear e5 H5 hmn hmd H4 H3
    rcases hcase with ⟨hneg, hsz⟩ | ⟨hneg, rfl⟩
    all_goals
      go_enter Try.func9, Try.ntmps9
      go_upto_region 5 with (fail)
      rw [ek.out, et.out]
      go_upto_region 10 with (fail)
      go_wp2_with (first
        | (refine wpList_make_full w rfl _ _ 34 rfl w.heap.size 5 i0 (.int .u8 0) 1 Try.underlying34 HI0.out HZ0.out HZ1.out .i64 .i64 (n : Int) (n : Int) n rfl rfl rfl rfl (by rw [HZ2.out]; omega) (by unfold maxLen; omega) (Nat.le_refl _) ?_; intro w5 how hgr; rw [made_u8] at how; have hm5 := Mine.of_ownsRow how; have hb0 := below_grown (Below.refl _ _) hgr nofun; have hcv5 := hcv.out w5 hm5; clear how hgr hm5)
        | (go_at_call 16; ((with_reducible refine (h5.out _).mono ?_); rintro e w1 ⟨rfl, hb1⟩))
        | (go_at_call 17; (with_reducible refine (H2.out _).mono ?_); rintro e w2 ⟨rfl, hb2⟩)
        | (go_at_call 12; (with_reducible refine (awake_calls _).mono ?_); rintro e w3 ⟨rfl, hb3⟩))
      go_ret
      exact ⟨rfl, below_next (below_next (below_next hb0 hb1) hb2) hb3⟩
end Go.Proofs.Ytblgldllfllcpaa
