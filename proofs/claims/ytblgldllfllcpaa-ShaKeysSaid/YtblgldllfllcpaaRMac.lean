/- The walk of the reference's Mac. -/
import Derived.Test.YtblgldllfllcpaaMac
namespace Go.Proofs.Ytblgldllfllcpaa
open Go.RowKit
/-- What is laid of a pad, i bytes. -/
def padv (k : ByteArray) (x i : Nat) : List Value := (List.range i).map fun j => Value.int .u8 ((kb k j ^^^ x : Nat) : Int)
theorem padv_succ (k : ByteArray) (x i : Nat) : padv k x (i + 1) = padv k x i ++ [.int .u8 ((kb k i ^^^ x : Nat) : Int)] := by
  unfold padv; rw [List.range_succ, List.map_append]; rfl
/-- Two slices apart, i bytes of each laid. -/
def PadS (w wr : World) (A : Option Addr) (c : Nat) (B : Option Addr) (d : Nat) (k : ByteArray) (i : Nat) : Prop :=
  ∃ bi bo, Own wr 1 (.slice A i c) bi i (padv k 54 i) ∧ Own wr 1 (.slice B i d) bo i (padv k 92 i) ∧ (∀ g, bi = some g → bo ≠ some g) ∧ (∀ g, bi = some g → w.heap.size ≤ g) ∧ (∀ g, bo = some g → w.heap.size ≤ g) ∧ Below w.heap.size w wr
theorem PadS.start {w w1 : World} (hb : Below w.heap.size w w1) (k : ByteArray) : PadS w w1 none 0 none 0 k 0 :=
  ⟨none, none, Own.none_ _ _, Own.none_ _ _, nofun, nofun, nofun, hb⟩
theorem PadS.conv {w wr w' : World} {A B : Option Addr} {c d : Nat} {k : ByteArray} (h : PadS w wr A c B d k 64) (hb : Below wr.heap.size wr w') :
    (convert 34 9 (.slice A 64 c)).run Try.prog w' = .ok (.string (pads k 54)) w' ∧ (convert 34 9 (.slice B 64 d)).run Try.prog w' = .ok (.string (pads k 92)) w' := by
  obtain ⟨bi, bo, h1, h2, _⟩ := h
  have each : ∀ (A : Option Addr) (c : Nat) (b : Option Nat) (x : Nat), Own wr 1 (.slice A 64 c) b 64 (padv k x 64) → (convert 34 9 (.slice A 64 c)).run Try.prog w' = .ok (.string (pads k x)) w' := by
    intro A c b x h
    obtain ⟨A', c', heq, _, _, hr⟩ := h.row
    cases heq
    rcases hr with h0 | ⟨pb, po, rfl, hp, hc⟩
    · omega
    · refine run_convert_bytes_arg (P := Try.prog) w' 34 5 (by kernel_rfl) (by kernel_rfl) pb po 64 c (padl k x) (padl_length _ _) (fun j hj => ?_) 9 (by kernel_rfl)
      rw [below_cell hb hp, hc j (by omega)]
      unfold padv padl
      simp only [List.getD_eq_getElem?_getD, List.getElem?_map, List.getElem?_range hj]
      rfl
  exact ⟨each A c bi 54 h1, each B d bo 92 h2⟩
theorem kb_xor2 (k : ByteArray) {i : Nat} (h : i < k.size) (x : Nat) (hx : x < 256) : bits .xor .u8 ((k[i].toNat : Nat) : Int) (x : Int) = ((kb k i ^^^ x : Nat) : Int) := by
  rw [kb_get k h, u8_xor_nat _ _ (kb_lt k i) hx]
theorem Own.alloc {w : World} {sz : Nat} {v : Value} {b : Option Nat} {n : Nat} {xs : List Value} (h : Own w sz v b n xs) (o : Obj) : Own (w.alloc o) sz v b n xs := h.below ((Below.refl _ _).alloc (Nat.le_refl _) o)
theorem PadS.next {w wr w3 w4 : World} {A1 B B1 : Option Addr} {c1 d d1 i : Nat} {k : ByteArray} {bi bo b3 b4 : Option Nat} {o1 o2 : Obj} {v1 v2 : Value}
    (hB : Own wr 1 (.slice B i d) bo i (padv k 92 i)) (hd : ∀ g, bi = some g → bo ≠ some g) (hbi : ∀ g, bi = some g → w.heap.size ≤ g) (hbo : ∀ g, bo = some g → w.heap.size ≤ g) (hb : Below w.heap.size w wr)
    (h3 : Own w3 1 (.slice A1 (i + 1) c1) b3 (i + 1) (padv k 54 i ++ [v1])) (hg3 : (wr.alloc o1).grownBy w3 bi) (hb3 : b3 = bi ∨ b3 = some (wr.alloc o1).heap.size)
    (h4 : Own w4 1 (.slice B1 (i + 1) d1) b4 (i + 1) (padv k 92 i ++ [v2])) (hg4 : (w3.alloc o2).grownBy w4 bo) (hb4 : b4 = bo ∨ b4 = some (w3.alloc o2).heap.size)
    (hv1 : v1 = .int .u8 ((kb k i ^^^ 54 : Nat) : Int)) (hv2 : v2 = .int .u8 ((kb k i ^^^ 92 : Nat) : Int)) : PadS w w4 A1 c1 B1 d1 k (i + 1) := by
  subst hv1
  subst hv2
  have hbol : ∀ g, bo = some g → g < wr.heap.size := fun g e => hB.lt e
  have hs1 : (wr.alloc o1).heap.size = wr.heap.size + 1 := by simp
  have hs2 : (w3.alloc o2).heap.size = w3.heap.size + 1 := by simp
  have hs3 := hg3.size
  have h3bo : ∀ g, b3 = some g → bo ≠ some g := by
    intro g e e2
    rcases hb3 with h | h
    · exact hd g (h ▸ e) e2
    · rw [h, hs1] at e; cases e; have := hbol _ e2; omega
  have hb2 : Below w.heap.size w w3 := below_grown (hb.alloc hb.size _) hg3 hbi
  refine ⟨b3, b4, ?_, ?_, ?_, ?_, ?_, below_grown (hb2.alloc hb2.size _) hg4 hbo⟩
  · rw [padv_succ]
    exact (h3.alloc o2).grown hg4 fun g e h => h3bo g e h
  · rw [padv_succ]; exact h4
  · intro g e
    rcases hb4 with h | h
    · rw [h]; exact h3bo g e
    · rw [h, hs2]; intro e2; cases e2; have := h3.lt e; omega
  · intro g e
    rcases hb3 with h | h
    · exact hbi g (h ▸ e)
    · rw [h, hs1] at e; cases e; have := hb.size; omega
  · intro g e
    rcases hb4 with h | h
    · exact hbo g (h ▸ e)
    · rw [h, hs2] at e; cases e; have := hb2.size; omega
set_option maxHeartbeats 4000000 in
set_option maxRecDepth 100000 in
theorem rmac_calls (key s : ByteArray) (w : World) (hk : key.size ≤ 1073741824) (hs : s.size ≤ 1073741824) :
    Calls Try.prog 17 #[.string key, .string s] w fun e w' => e = .returned (.string (mac key s)) ∧ Below w.heap.size w w' := by
  have HK := Lib.hid (fun w => rsum_calls key w (by omega))
  have HS := Lib.hid hs
  obtain ⟨m, hm⟩ : ∃ m, Hid (mac key s = m) := ⟨_, Lib.hid rfl⟩
  rw [hm.out]
  obtain ⟨i0, hi0, hz0, hz1, hz2⟩ := info_parts info_u8
  have HI0 := Lib.hid hi0
  have HZ0 := Lib.hid hz0
  have HZ1 := Lib.hid hz1
  have HZ2 := Lib.hid hz2
  clear hk hs hi0 hz0 hz1 hz2
  by_cases hbig : 64 < key.size
  · have hbi : (64 : Int) < (key.size : Int) := by omega
    have hm2 : Hid (macK (dig key) s = m) := Lib.hid (by rw [← hm.out]; unfold mac eff; rw [if_pos hbig])
    generalize dig key = k at HK hm2
    clear hm
    go_enter Try.func17, Try.ntmps17
    go_upto_region 3 with (first | (go_at_call 11; (with_reducible refine (HK.out _).mono ?_); rintro e w1 ⟨rfl, hb1⟩))
    go_wp2
    have hP := Lib.hid (PadS.start hb1 k)
    clear hb1
    go_loopg [5, 6, 7] 65 (fun gk s5 s6 s7 wr => ∃ i A c B d, gk = 65 - i ∧ i ≤ 64 ∧ s7 = .int .i64 (i : Int) ∧ s5 = .slice A i c ∧ s6 = .slice B i d ∧ Hid (PadS w wr A c B d k i))
    case atStart => exact ⟨0, none, 0, none, 0, rfl, Nat.zero_le _, rfl, rfl, rfl, hP⟩
    case round =>
      clear hP
      obtain ⟨i, A, c, B, d, rfl, hi, rfl, rfl, rfl, hP⟩ := hrel
      have i0' : (0 : Int) ≤ (i : Int) := by omega
      by_cases hlt : i < 64
      · have i64 : (i : Int) < 64 := by omega
        obtain ⟨bi, bo, hA, hB, hd, hbi', hbo', hb⟩ := hP.out
        have hb' := Lib.hid hb
        replace hA := Lib.hid hA
        replace hB := Lib.hid hB
        have hdd := Lib.hid hd
        have hbii := Lib.hid hbi'
        have hboo := Lib.hid hbo'
        clear hb hd hbi' hbo'
        by_cases hin : i < k.size
        · have hin2 : (i : Int) < (k.size : Int) := by omega
          have e1 := Lib.hid (kb_xor2 k hin 54 (by omega))
          have e2 := Lib.hid (kb_xor2 k hin 92 (by omega))
          go_upto_region 10 with (fail)
          generalize k[i].toNat = y at e1 e2 ⊢
          go_wp2_with (first
            | (refine wpList_append_own2 rfl (.tmp 25) (.tmp 28) 34 34 rfl 5 i0 (.int .u8 0) 1 Try.underlying34 HI0.out HZ0.out HZ1.out HZ2.out rfl (by decide) rfl (hA.out.alloc _) _ 1 [.int .u8 (bits .xor .u8 (y : Int) 54)] rfl (src_new Try.underlying34 _ _ [.int .u8 (bits .xor .u8 (y : Int) 54)] 1 1 rfl (by simp [Value.oneCell'])) (by unfold maxLen; omega) (by omega) ?_; intro A1 c1 w3 b3 h3 hg3 hb3)
            | (refine wpList_append_own2 rfl (.tmp 30) (.tmp 33) 34 34 rfl 5 i0 (.int .u8 0) 1 Try.underlying34 HI0.out HZ0.out HZ1.out HZ2.out rfl (by decide) rfl (((hB.out.alloc _).grown hg3 fun g e h => hdd.out g h e).alloc _) _ 1 [.int .u8 (bits .xor .u8 (y : Int) 92)] rfl (src_new Try.underlying34 _ _ [.int .u8 (bits .xor .u8 (y : Int) 92)] 1 1 rfl (by simp [Value.oneCell'])) (by unfold maxLen; omega) (by omega) ?_; intro A2 c2 w4 b4 h4 hg4 hb4))
          go_roundg (65 - (i + 1))
          case measure => omega
          case rel => exact ⟨i + 1, A1, c1, A2, c2, rfl, by omega, by go_num, rfl, rfl, Lib.hid (PadS.next hB.out hdd.out hbii.out hboo.out hb'.out h3 hg3 hb3 h4 hg4 hb4 (congrArg _ e1.out) (congrArg _ e2.out))⟩
        · have hk0 := Lib.hid (kb_out k (Nat.le_of_not_lt hin))
          go_wp2_with (first
            | (refine wpList_append_own2 rfl (.tmp 25) (.tmp 28) 34 34 rfl 5 i0 (.int .u8 0) 1 Try.underlying34 HI0.out HZ0.out HZ1.out HZ2.out rfl (by decide) rfl (hA.out.alloc _) _ 1 [.int .u8 (bits .xor .u8 0 54)] rfl (src_new Try.underlying34 _ _ [.int .u8 (bits .xor .u8 0 54)] 1 1 rfl (by simp [Value.oneCell'])) (by unfold maxLen; omega) (by omega) ?_; intro A1 c1 w3 b3 h3 hg3 hb3)
            | (refine wpList_append_own2 rfl (.tmp 30) (.tmp 33) 34 34 rfl 5 i0 (.int .u8 0) 1 Try.underlying34 HI0.out HZ0.out HZ1.out HZ2.out rfl (by decide) rfl (((hB.out.alloc _).grown hg3 fun g e h => hdd.out g h e).alloc _) _ 1 [.int .u8 (bits .xor .u8 0 92)] rfl (src_new Try.underlying34 _ _ [.int .u8 (bits .xor .u8 0 92)] 1 1 rfl (by simp [Value.oneCell'])) (by unfold maxLen; omega) (by omega) ?_; intro A2 c2 w4 b4 h4 hg4 hb4))
          go_roundg (65 - (i + 1))
          case measure => omega
          case rel => exact ⟨i + 1, A1, c1, A2, c2, rfl, by omega, by go_num, rfl, rfl, Lib.hid (PadS.next hB.out hdd.out hbii.out hboo.out hb'.out h3 hg3 hb3 h4 hg4 hb4 (by rw [hk0.out]; rfl) (by rw [hk0.out]; rfl))⟩
      · obtain rfl : i = 64 := by omega
        have HC := Lib.hid (fun w' hb => hP.out.conv (w' := w') hb)
        have hb : Hid (Below w.heap.size w wr) := Lib.hid (by obtain ⟨_, _, _, _, _, _, _, h⟩ := hP.out; exact h)
        have hp1 := pads_size k 54
        have hp2 := pads_size k 92
        obtain ⟨p1, hp1e⟩ : ∃ p, Hid (pads k 54 = p) := ⟨_, Lib.hid rfl⟩
        obtain ⟨p2, hp2e⟩ : ∃ p, Hid (pads k 92 = p) := ⟨_, Lib.hid rfl⟩
        rw [hp1e.out] at hp1 HC
        rw [hp2e.out] at hp2 HC
        have h1 : p1.size + s.size ≤ 9223372036854775807 := by have := HS.out; omega
        have h2 : p2.size + (dig (p1 ++ s)).size ≤ 9223372036854775807 := by rw [dig_size]; omega
        have HA1 := Lib.hid (fun w => rsum_calls (p1 ++ s) w (by rw [ByteArray.size_append]; have := HS.out; omega))
        have HA2 := Lib.hid (fun w => rsum_calls (p2 ++ dig (p1 ++ s)) w (by rw [ByteArray.size_append, dig_size]; omega))
        have hm3 : Hid (dig (p2 ++ dig (p1 ++ s)) = m) := Lib.hid (by rw [← hm2.out, ← hp1e.out, ← hp2e.out]; rfl)
        rw [hm3.out] at HA2
        generalize dig (p1 ++ s) = d1 at HA1 HA2 h2
        have hadd1 := fun w => run_string_add_sum (P := Try.prog) w p1 s h1
        have hadd2 := fun w => run_string_add_sum (P := Try.prog) w p2 d1 h2
        clear hp1 hp2 h1 h2
        go_upto_region 12 with (fail)
        go_region_held3 (fun w' => (convert 34 9 (.slice A 64 c)).run Try.prog w' = .ok (.string p1) w' ∧ (convert 34 9 (.slice B 64 d)).run Try.prog w' = .ok (.string p2) w')
          (first | exact HC.out _ (below_next (un_drew hbA) hbB) | exact HC.out _ (un_drew hbA) | exact HC.out _ (Below.refl _ _).drew | exact HC.out _ (Below.refl _ _))
          ((go_at_call 11; (first | ((with_reducible refine (HA2.out _).mono ?_); rintro e w9 ⟨rfl, hbB⟩) | ((with_reducible refine (HA1.out _).mono ?_); rintro e w8 ⟨rfl, hbA⟩))))
        go_wp2
        go_ret
        exact ⟨rfl, hb.out.trans ((below_next (un_drew hbA) hbB).mono hb.out.size)⟩
  · have hbi : ¬ (64 : Int) < (key.size : Int) := by omega
    have hm2 : Hid (macK key s = m) := Lib.hid (by rw [← hm.out]; unfold mac eff; rw [if_neg hbig])
    obtain ⟨k, rfl⟩ : ∃ k, k = key := ⟨_, rfl⟩
    clear hm HK
    go_enter Try.func17, Try.ntmps17
    go_upto_region 3 with (fail)
    go_wp2
    have hP := Lib.hid (PadS.start (Below.refl w.heap.size w) k)
    go_loopg [5, 6, 7] 65 (fun gk s5 s6 s7 wr => ∃ i A c B d, gk = 65 - i ∧ i ≤ 64 ∧ s7 = .int .i64 (i : Int) ∧ s5 = .slice A i c ∧ s6 = .slice B i d ∧ Hid (PadS w wr A c B d k i))
    case atStart => exact ⟨0, none, 0, none, 0, rfl, Nat.zero_le _, rfl, rfl, rfl, hP⟩
    case round =>
      clear hP
      obtain ⟨i, A, c, B, d, rfl, hi, rfl, rfl, rfl, hP⟩ := hrel
      have i0' : (0 : Int) ≤ (i : Int) := by omega
      by_cases hlt : i < 64
      · have i64 : (i : Int) < 64 := by omega
        obtain ⟨bi, bo, hA, hB, hd, hbi', hbo', hb⟩ := hP.out
        have hb' := Lib.hid hb
        replace hA := Lib.hid hA
        replace hB := Lib.hid hB
        have hdd := Lib.hid hd
        have hbii := Lib.hid hbi'
        have hboo := Lib.hid hbo'
        clear hb hd hbi' hbo'
        by_cases hin : i < k.size
        · have hin2 : (i : Int) < (k.size : Int) := by omega
          have e1 := Lib.hid (kb_xor2 k hin 54 (by omega))
          have e2 := Lib.hid (kb_xor2 k hin 92 (by omega))
          go_upto_region 10 with (fail)
          generalize k[i].toNat = y at e1 e2 ⊢
          go_wp2_with (first
            | (refine wpList_append_own2 rfl (.tmp 25) (.tmp 28) 34 34 rfl 5 i0 (.int .u8 0) 1 Try.underlying34 HI0.out HZ0.out HZ1.out HZ2.out rfl (by decide) rfl (hA.out.alloc _) _ 1 [.int .u8 (bits .xor .u8 (y : Int) 54)] rfl (src_new Try.underlying34 _ _ [.int .u8 (bits .xor .u8 (y : Int) 54)] 1 1 rfl (by simp [Value.oneCell'])) (by unfold maxLen; omega) (by omega) ?_; intro A1 c1 w3 b3 h3 hg3 hb3)
            | (refine wpList_append_own2 rfl (.tmp 30) (.tmp 33) 34 34 rfl 5 i0 (.int .u8 0) 1 Try.underlying34 HI0.out HZ0.out HZ1.out HZ2.out rfl (by decide) rfl (((hB.out.alloc _).grown hg3 fun g e h => hdd.out g h e).alloc _) _ 1 [.int .u8 (bits .xor .u8 (y : Int) 92)] rfl (src_new Try.underlying34 _ _ [.int .u8 (bits .xor .u8 (y : Int) 92)] 1 1 rfl (by simp [Value.oneCell'])) (by unfold maxLen; omega) (by omega) ?_; intro A2 c2 w4 b4 h4 hg4 hb4))
          go_roundg (65 - (i + 1))
          case measure => omega
          case rel => exact ⟨i + 1, A1, c1, A2, c2, rfl, by omega, by go_num, rfl, rfl, Lib.hid (PadS.next hB.out hdd.out hbii.out hboo.out hb'.out h3 hg3 hb3 h4 hg4 hb4 (congrArg _ e1.out) (congrArg _ e2.out))⟩
        · have hk0 := Lib.hid (kb_out k (Nat.le_of_not_lt hin))
          go_wp2_with (first
            | (refine wpList_append_own2 rfl (.tmp 25) (.tmp 28) 34 34 rfl 5 i0 (.int .u8 0) 1 Try.underlying34 HI0.out HZ0.out HZ1.out HZ2.out rfl (by decide) rfl (hA.out.alloc _) _ 1 [.int .u8 (bits .xor .u8 0 54)] rfl (src_new Try.underlying34 _ _ [.int .u8 (bits .xor .u8 0 54)] 1 1 rfl (by simp [Value.oneCell'])) (by unfold maxLen; omega) (by omega) ?_; intro A1 c1 w3 b3 h3 hg3 hb3)
            | (refine wpList_append_own2 rfl (.tmp 30) (.tmp 33) 34 34 rfl 5 i0 (.int .u8 0) 1 Try.underlying34 HI0.out HZ0.out HZ1.out HZ2.out rfl (by decide) rfl (((hB.out.alloc _).grown hg3 fun g e h => hdd.out g h e).alloc _) _ 1 [.int .u8 (bits .xor .u8 0 92)] rfl (src_new Try.underlying34 _ _ [.int .u8 (bits .xor .u8 0 92)] 1 1 rfl (by simp [Value.oneCell'])) (by unfold maxLen; omega) (by omega) ?_; intro A2 c2 w4 b4 h4 hg4 hb4))
          go_roundg (65 - (i + 1))
          case measure => omega
          case rel => exact ⟨i + 1, A1, c1, A2, c2, rfl, by omega, by go_num, rfl, rfl, Lib.hid (PadS.next hB.out hdd.out hbii.out hboo.out hb'.out h3 hg3 hb3 h4 hg4 hb4 (by rw [hk0.out]; rfl) (by rw [hk0.out]; rfl))⟩
      · obtain rfl : i = 64 := by omega
        have HC := Lib.hid (fun w' hb => hP.out.conv (w' := w') hb)
        have hb : Hid (Below w.heap.size w wr) := Lib.hid (by obtain ⟨_, _, _, _, _, _, _, h⟩ := hP.out; exact h)
        have hp1 := pads_size k 54
        have hp2 := pads_size k 92
        obtain ⟨p1, hp1e⟩ : ∃ p, Hid (pads k 54 = p) := ⟨_, Lib.hid rfl⟩
        obtain ⟨p2, hp2e⟩ : ∃ p, Hid (pads k 92 = p) := ⟨_, Lib.hid rfl⟩
        rw [hp1e.out] at hp1 HC
        rw [hp2e.out] at hp2 HC
        have h1 : p1.size + s.size ≤ 9223372036854775807 := by have := HS.out; omega
        have h2 : p2.size + (dig (p1 ++ s)).size ≤ 9223372036854775807 := by rw [dig_size]; omega
        have HA1 := Lib.hid (fun w => rsum_calls (p1 ++ s) w (by rw [ByteArray.size_append]; have := HS.out; omega))
        have HA2 := Lib.hid (fun w => rsum_calls (p2 ++ dig (p1 ++ s)) w (by rw [ByteArray.size_append, dig_size]; omega))
        have hm3 : Hid (dig (p2 ++ dig (p1 ++ s)) = m) := Lib.hid (by rw [← hm2.out, ← hp1e.out, ← hp2e.out]; rfl)
        rw [hm3.out] at HA2
        generalize dig (p1 ++ s) = d1 at HA1 HA2 h2
        have hadd1 := fun w => run_string_add_sum (P := Try.prog) w p1 s h1
        have hadd2 := fun w => run_string_add_sum (P := Try.prog) w p2 d1 h2
        clear hp1 hp2 h1 h2
        go_upto_region 12 with (fail)
        go_region_held3 (fun w' => (convert 34 9 (.slice A 64 c)).run Try.prog w' = .ok (.string p1) w' ∧ (convert 34 9 (.slice B 64 d)).run Try.prog w' = .ok (.string p2) w')
          (first | exact HC.out _ (below_next (un_drew hbA) hbB) | exact HC.out _ (un_drew hbA) | exact HC.out _ (Below.refl _ _).drew | exact HC.out _ (Below.refl _ _))
          ((go_at_call 11; (first | ((with_reducible refine (HA2.out _).mono ?_); rintro e w9 ⟨rfl, hbB⟩) | ((with_reducible refine (HA1.out _).mono ?_); rintro e w8 ⟨rfl, hbA⟩))))
        go_wp2
        go_ret
        exact ⟨rfl, hb.out.trans ((below_next (un_drew hbA) hbB).mono hb.out.size)⟩
end Go.Proofs.Ytblgldllfllcpaa
