/- The HMAC of a text by a key, and the walk of the program's Mac. -/
import Derived.Test.YtblgldllfllcpaaTwo
import Derived.Test.YtblgldllfllcpaaOwnK
import Derived.Outline
import Derived.BigRegion
namespace Go.Proofs.Ytblgldllfllcpaa
open Go.RowKit
/-- A byte of a key; noughts behind it. -/
def kb (k : ByteArray) (j : Nat) : Nat := (bts k).getD j 0
theorem kb_lt (k : ByteArray) (j : Nat) : kb k j < 256 := by
  unfold kb
  rw [List.getD_eq_getElem?_getD]
  cases h : (bts k)[j]? with
  | none => simp
  | some x => exact bts_lt k x (List.mem_of_getElem? h)
theorem kb_in (k : ByteArray) {j : Nat} (h : j < k.size) : kb k j = (k.data.toList.getD j 0).toNat := by
  unfold kb bts
  rw [List.getD_eq_getElem?_getD, List.getElem?_map, List.getD_eq_getElem?_getD]
  rw [List.getElem?_eq_getElem (by rw [Array.length_toList]; exact h)]
  rfl
theorem kb_out (k : ByteArray) {j : Nat} (h : k.size ≤ j) : kb k j = 0 := by
  unfold kb
  rw [List.getD_eq_getElem?_getD, List.getElem?_eq_none (by rw [bts_length]; exact h)]; rfl
def padl (k : ByteArray) (x : Nat) : List Int := (List.range 64).map fun j => ((kb k j ^^^ x : Nat) : Int)
def pads (k : ByteArray) (x : Nat) : ByteArray := strOfNums (padl k x)
theorem padl_length (k : ByteArray) (x : Nat) : (padl k x).length = 64 := by simp [padl]
theorem pads_size (k : ByteArray) (x : Nat) : (pads k x).size = 64 := by
  have := congrArg List.length (strOfNums_data (padl k x))
  rw [List.length_map, padl_length] at this
  unfold pads
  simpa using this
/-- The key as it is used. -/
def eff (key : ByteArray) : ByteArray := if 64 < key.size then dig key else key
theorem eff_size (key : ByteArray) : (eff key).size ≤ 64 := by
  unfold eff
  split
  · rw [dig_size]; omega
  · omega
def macK (k s : ByteArray) : ByteArray := dig (pads k 92 ++ dig (pads k 54 ++ s))
def mac (key s : ByteArray) : ByteArray := macK (eff key) s
/-- Cells of a pad, i of them laid. -/
def padc (k : ByteArray) (x i : Nat) : Array Value := ((List.range 64).map fun j => if j < i then Value.int .u8 ((kb k j ^^^ x : Nat) : Int) else Value.int .u8 0).toArray
theorem padc_zero (k : ByteArray) (x : Nat) : padc k x 0 = (List.replicate 64 (Value.int .u8 0)).toArray := by
  unfold padc
  congr 1
theorem padc_at (k : ByteArray) (x : Nat) {i j : Nat} (h : j < 64) : (padc k x i)[j]? = some (if j < i then Value.int .u8 ((kb k j ^^^ x : Nat) : Int) else Value.int .u8 0) := by
  unfold padc
  rw [List.getElem?_toArray, List.getElem?_map, List.getElem?_range h]; rfl
theorem padc_set (k : ByteArray) (x i : Nat) (v : Value) (hv : v = Value.int .u8 ((kb k i ^^^ x : Nat) : Int)) : (padc k x i).setIfInBounds i v = padc k x (i + 1) := by
  subst hv
  apply Array.ext_getElem?
  intro j
  rw [Array.getElem?_setIfInBounds]
  have hs : (padc k x i).size = 64 := by simp [padc]
  by_cases hj : j < 64
  · by_cases e : i = j
    · subst e
      rw [if_pos rfl, if_pos (by omega), padc_at _ _ hj, if_pos (by omega)]
    · rw [if_neg e, padc_at _ _ hj, padc_at _ _ hj]
      by_cases h1 : j < i
      · rw [if_pos h1, if_pos (by omega)]
      · rw [if_neg h1, if_neg (by omega)]
  · have hs2 : (padc k x (i + 1)).size = 64 := by simp [padc]
    by_cases e : i = j
    · subst e
      rw [if_pos rfl, if_neg (by omega), Array.getElem?_eq_none (by omega)]
    · rw [if_neg e, Array.getElem?_eq_none (by omega), Array.getElem?_eq_none (by omega)]
theorem set_set (a : Array Value) (i : Nat) (u v : Value) : (a.setIfInBounds i u).setIfInBounds i v = a.setIfInBounds i v := by
  apply Array.ext_getElem?
  intro j
  rw [Array.getElem?_setIfInBounds, Array.getElem?_setIfInBounds, Array.getElem?_setIfInBounds]
  by_cases e : i = j
  · subst e; simp
  · simp [e]
/-- The two arrays of Mac, i bytes of each laid. -/
def Pads (w wr : World) (gi : Nat) (k : ByteArray) (i : Nat) : Prop := Below w.heap.size w wr ∧ w.heap.size ≤ gi ∧ Blk wr gi 50 (padc k 54 i) ∧ Blk wr (gi + 1) 50 (padc k 92 i)
theorem Pads.start {w w1 : World} (hb : Below w.heap.size w w1) (k : ByteArray) : Pads w ((w1.alloc (.cells (List.replicate 64 (.int .u8 0)).toArray 50)).alloc (.cells (List.replicate 64 (.int .u8 0)).toArray 50)) w1.heap.size k 0 := by
  refine ⟨(hb.alloc hb.size _).alloc (by simp; have := hb.size; omega) _, hb.size, ?_, ?_⟩
  · rw [padc_zero]; exact (Blk.new w1 _ _).alloc _
  · rw [padc_zero]
    have := Blk.new (w1.alloc (.cells (List.replicate 64 (.int .u8 0)).toArray 50)) 50 (List.replicate 64 (.int .u8 0)).toArray
    simpa using this
theorem Pads.step0 {w wr : World} {gi i : Nat} {k : ByteArray} (h : Pads w wr gi k i) (hk : k.size ≤ i) : Pads w ((wr.setCell ⟨gi, i, none⟩ (.int .u8 54)).setCell ⟨gi + 1, i, none⟩ (.int .u8 92)) gi k (i + 1) := by
  obtain ⟨h1, h2, h3, h4⟩ := h
  refine ⟨(h1.setCell (p := ⟨gi, i, none⟩) h2 _).setCell (p := ⟨gi + 1, i, none⟩) (by show _ ≤ gi + 1; omega) _, h2, ?_, ?_⟩
  · have := (h3.set_ i (.int .u8 54)).far (b := gi + 1) (j := i) (by omega) (.int .u8 92)
    rwa [padc_set k 54 i _ (by rw [kb_out k hk]; rfl)] at this
  · have := (h4.far (b := gi) (j := i) (by omega) (.int .u8 54)).set_ i (.int .u8 92)
    rwa [padc_set k 92 i _ (by rw [kb_out k hk]; rfl)] at this
theorem Pads.step1 {w wr : World} {gi i : Nat} {k : ByteArray} (h : Pads w wr gi k i) : Pads w ((((wr.setCell ⟨gi, i, none⟩ (.int .u8 54)).setCell ⟨gi + 1, i, none⟩ (.int .u8 92)).setCell ⟨gi, i, none⟩ (.int .u8 ((kb k i ^^^ 54 : Nat) : Int))).setCell ⟨gi + 1, i, none⟩ (.int .u8 ((kb k i ^^^ 92 : Nat) : Int))) gi k (i + 1) := by
  obtain ⟨h1, h2, h3, h4⟩ := h
  refine ⟨(((h1.setCell (p := ⟨gi, i, none⟩) h2 _).setCell (p := ⟨gi + 1, i, none⟩) (by show _ ≤ gi + 1; omega) _).setCell (p := ⟨gi, i, none⟩) h2 _).setCell (p := ⟨gi + 1, i, none⟩) (by show _ ≤ gi + 1; omega) _, h2, ?_, ?_⟩
  · have := (((h3.set_ i (.int .u8 54)).far (b := gi + 1) (j := i) (by omega) (.int .u8 92)).set_ i (.int .u8 ((kb k i ^^^ 54 : Nat) : Int))).far (b := gi + 1) (j := i) (by omega) (.int .u8 ((kb k i ^^^ 92 : Nat) : Int))
    rwa [set_set, padc_set k 54 i _ rfl] at this
  · have := (((h4.far (b := gi) (j := i) (by omega) (.int .u8 54)).set_ i (.int .u8 92)).far (b := gi) (j := i) (by omega) (.int .u8 ((kb k i ^^^ 54 : Nat) : Int))).set_ i (.int .u8 ((kb k i ^^^ 92 : Nat) : Int))
    rwa [set_set, padc_set k 92 i _ rfl] at this
theorem Pads.drew {w wr : World} {gi i : Nat} {k : ByteArray} (h : Pads w wr gi k i) : Pads w wr.drew gi k i := ⟨h.1.drew, h.2.1, h.2.2.1.drew, h.2.2.2.drew⟩
/-- The arrays as texts, in any world behind. -/
theorem Pads.conv {w wr w' : World} {gi : Nat} {k : ByteArray} (h : Pads w wr gi k 64) (hb : Below wr.heap.size wr w') :
    (convert 34 9 (.slice (some ⟨gi, 0, none⟩) 64 64)).run Try.prog w' = .ok (.string (pads k 54)) w' ∧ (convert 34 9 (.slice (some ⟨gi + 1, 0, none⟩) 64 64)).run Try.prog w' = .ok (.string (pads k 92)) w' := by
  obtain ⟨h1, h2, h3, h4⟩ := h
  have hc : ∀ x j, j < 64 → (padc k x 64)[j]? = some (.int .u8 ((padl k x).getD j 0)) := fun x j hj => by
    rw [padc_at _ _ hj, if_pos hj]
    unfold padl
    rw [List.getD_eq_getElem?_getD, List.getElem?_map, List.getElem?_range hj]; rfl
  refine ⟨?_, ?_⟩
  · exact run_convert_bytes_arg (P := Try.prog) w' 34 5 (by kernel_rfl) (by kernel_rfl) gi 0 64 64 (padl k 54) (padl_length _ _) (fun j hj => by rw [Nat.zero_add, (h3.below hb h3.lt).cell]; exact hc 54 j hj) 9 (by kernel_rfl)
  · exact run_convert_bytes_arg (P := Try.prog) w' 34 5 (by kernel_rfl) (by kernel_rfl) (gi + 1) 0 64 64 (padl k 92) (padl_length _ _) (fun j hj => by rw [Nat.zero_add, (h4.below hb h4.lt).cell]; exact hc 92 j hj) 9 (by kernel_rfl)
theorem kb_get (k : ByteArray) {i : Nat} (h : i < k.size) : k[i].toNat = kb k i := by
  rw [kb_in k h, List.getD_eq_getElem?_getD, List.getElem?_eq_getElem (by rw [Array.length_toList]; exact h)]
  rfl
theorem kb_xor (k : ByteArray) {i : Nat} (h : i < k.size) (x : Nat) (hx : x < 256) : bits .xor .u8 (x : Int) ((k[i].toNat : Nat) : Int) = ((kb k i ^^^ x : Nat) : Int) := by
  rw [kb_get k h, u8_xor_nat _ _ hx (kb_lt k i), Nat.xor_comm]
theorem un_drew {B : Nat} {w w' : World} (h : Below B w.drew w') : Below B w w' := ⟨h.os, h.tape, h.output, h.size, h.block⟩
set_option maxHeartbeats 4000000 in
set_option maxRecDepth 100000 in
theorem smac_calls (key s : ByteArray) (w : World) (hk : key.size ≤ 1073741824) (hs : s.size ≤ 1073741824) :
    Calls Try.prog 16 #[.string key, .string s] w fun e w' => e = .returned (.string (mac key s)) ∧ Below w.heap.size w w' := by
  have HK := Lib.hid (fun w => ssum_calls key w (by omega))
  have HS := Lib.hid hs
  obtain ⟨m, hm⟩ : ∃ m, Hid (mac key s = m) := ⟨_, Lib.hid rfl⟩
  rw [hm.out]
  clear hk hs
  by_cases hbig : 64 < key.size
  · have hbi : (64 : Int) < (key.size : Int) := by omega
    have hm2 : Hid (macK (dig key) s = m) := Lib.hid (by rw [← hm.out]; unfold mac eff; rw [if_pos hbig])
    generalize dig key = k at HK hm2
    clear hm
    go_enter Try.func16, Try.ntmps16
    go_upto_region 3 with (first | (go_at_call 10; (with_reducible refine (HK.out _).mono ?_); rintro e w1 ⟨rfl, hb1⟩))
    go_wp2
    have hP := Lib.hid (Pads.start hb1 k)
    obtain ⟨gi, hgi⟩ : ∃ gi, gi = w1.heap.size := ⟨_, rfl⟩
    rw [← hgi] at hP ⊢
    have hP1 : Hid (∃ wx, wx = (w1.alloc (.cells (List.replicate 64 (Value.int .u8 0)).toArray 50)).alloc (.cells (List.replicate 64 (Value.int .u8 0)).toArray 50) ∧ Pads w wx gi k 0) := Lib.hid ⟨_, rfl, hP.out⟩
    obtain ⟨wx, hwx, hP2⟩ := hP1.out
    have hwx2 : wx = (w1.alloc (.cells #[.int .u8 0, .int .u8 0, .int .u8 0, .int .u8 0, .int .u8 0, .int .u8 0, .int .u8 0, .int .u8 0, .int .u8 0, .int .u8 0, .int .u8 0, .int .u8 0, .int .u8 0, .int .u8 0, .int .u8 0, .int .u8 0, .int .u8 0, .int .u8 0, .int .u8 0, .int .u8 0, .int .u8 0, .int .u8 0, .int .u8 0, .int .u8 0, .int .u8 0, .int .u8 0, .int .u8 0, .int .u8 0, .int .u8 0, .int .u8 0, .int .u8 0, .int .u8 0, .int .u8 0, .int .u8 0, .int .u8 0, .int .u8 0, .int .u8 0, .int .u8 0, .int .u8 0, .int .u8 0, .int .u8 0, .int .u8 0, .int .u8 0, .int .u8 0, .int .u8 0, .int .u8 0, .int .u8 0, .int .u8 0, .int .u8 0, .int .u8 0, .int .u8 0, .int .u8 0, .int .u8 0, .int .u8 0, .int .u8 0, .int .u8 0, .int .u8 0, .int .u8 0, .int .u8 0, .int .u8 0, .int .u8 0, .int .u8 0, .int .u8 0, .int .u8 0] 50)).alloc (.cells #[.int .u8 0, .int .u8 0, .int .u8 0, .int .u8 0, .int .u8 0, .int .u8 0, .int .u8 0, .int .u8 0, .int .u8 0, .int .u8 0, .int .u8 0, .int .u8 0, .int .u8 0, .int .u8 0, .int .u8 0, .int .u8 0, .int .u8 0, .int .u8 0, .int .u8 0, .int .u8 0, .int .u8 0, .int .u8 0, .int .u8 0, .int .u8 0, .int .u8 0, .int .u8 0, .int .u8 0, .int .u8 0, .int .u8 0, .int .u8 0, .int .u8 0, .int .u8 0, .int .u8 0, .int .u8 0, .int .u8 0, .int .u8 0, .int .u8 0, .int .u8 0, .int .u8 0, .int .u8 0, .int .u8 0, .int .u8 0, .int .u8 0, .int .u8 0, .int .u8 0, .int .u8 0, .int .u8 0, .int .u8 0, .int .u8 0, .int .u8 0, .int .u8 0, .int .u8 0, .int .u8 0, .int .u8 0, .int .u8 0, .int .u8 0, .int .u8 0, .int .u8 0, .int .u8 0, .int .u8 0, .int .u8 0, .int .u8 0, .int .u8 0, .int .u8 0] 50) := hwx
    rw [← hwx2]
    replace hP := Lib.hid hP2
    clear hgi hb1 hwx hwx2 hP2 hP1
    go_loopg [13] 65 (fun gk s13 wr => ∃ i, gk = 65 - i ∧ i ≤ 64 ∧ s13 = .int .i64 (i : Int) ∧ Hid (Pads w wr gi k i))
    case atStart => exact ⟨0, rfl, Nat.zero_le _, rfl, hP⟩
    case round =>
      clear hP
      obtain ⟨i, rfl, hi, rfl, hP⟩ := hrel
      have i0 : (0 : Int) ≤ (i : Int) := by omega
      by_cases hlt : i < 64
      · have i64 : (i : Int) < 64 := by omega
        have ca : wr.cell? ⟨gi, i, none⟩ = some (.int .u8 0) := by rw [hP.out.2.2.1.cell, padc_at _ _ hlt, if_neg (by omega)]
        have cb : wr.cell? ⟨gi + 1, i, none⟩ = some (.int .u8 0) := by rw [hP.out.2.2.2.cell, padc_at _ _ hlt, if_neg (by omega)]
        have fa := hP.out.2.2.1.frozen i
        have fb := hP.out.2.2.2.frozen i
        by_cases hin : i < k.size
        · have hin2 : (i : Int) < (k.size : Int) := by omega
          go_upto_region 9 with (fail)
          have da : ((wr.setCell ⟨gi, i, none⟩ (.int .u8 54)).setCell ⟨gi + 1, i, none⟩ (.int .u8 92)).cell? ⟨gi, i, none⟩ = some (.int .u8 54) := by simp [ca, go_sem]
          have db : ((wr.setCell ⟨gi, i, none⟩ (.int .u8 54)).setCell ⟨gi + 1, i, none⟩ (.int .u8 92)).cell? ⟨gi + 1, i, none⟩ = some (.int .u8 92) := by simp [cb, go_sem]
          have ga : ((wr.setCell ⟨gi, i, none⟩ (.int .u8 54)).setCell ⟨gi + 1, i, none⟩ (.int .u8 92)).frozen? ⟨gi, i, none⟩ = false := by rw [World.frozen?_setCell, World.frozen?_setCell]; exact fa
          have gb : ((wr.setCell ⟨gi, i, none⟩ (.int .u8 54)).setCell ⟨gi + 1, i, none⟩ (.int .u8 92)).frozen? ⟨gi + 1, i, none⟩ = false := by rw [World.frozen?_setCell, World.frozen?_setCell]; exact fb
          obtain ⟨w7, hw7⟩ : ∃ w7, Hid ((wr.setCell ⟨gi, i, none⟩ (.int .u8 54)).setCell ⟨gi + 1, i, none⟩ (.int .u8 92) = w7) := ⟨_, Lib.hid rfl⟩
          rw [hw7.out] at da db ga gb ⊢
          clear ca cb fa fb
          go_region
          all_goals
            go_wp2
            go_roundg (65 - (i + 1))
            case measure => omega
            case rel =>
              refine ⟨i + 1, rfl, by omega, by go_num, Lib.hid ?_⟩
              have e1 := kb_xor k hin 54 (by omega)
              have e2 := kb_xor k hin 92 (by omega)
              rw [show ((54 : Nat) : Int) = 54 from rfl] at e1
              rw [show ((92 : Nat) : Int) = 92 from rfl] at e2
              rw [e1, e2, ← hw7.out]
              exact hP.out.step1.drew
        · go_wp2
          go_roundg (65 - (i + 1))
          case measure => omega
          case rel => exact ⟨i + 1, rfl, by omega, by go_num, Lib.hid (hP.out.step0 (by omega))⟩
      · obtain rfl : i = 64 := by omega
        have HC := Lib.hid (fun w' hb => hP.out.conv (w' := w') hb)
        have hb := Lib.hid hP.out.1
        have hp1 := pads_size k 54
        have hp2 := pads_size k 92
        obtain ⟨p1, hp1e⟩ : ∃ p, Hid (pads k 54 = p) := ⟨_, Lib.hid rfl⟩
        obtain ⟨p2, hp2e⟩ : ∃ p, Hid (pads k 92 = p) := ⟨_, Lib.hid rfl⟩
        rw [hp1e.out] at hp1 HC
        rw [hp2e.out] at hp2 HC
        have h1 : p1.size + s.size ≤ 9223372036854775807 := by have := HS.out; omega
        have h2 : p2.size + (dig (p1 ++ s)).size ≤ 9223372036854775807 := by rw [dig_size]; omega
        have HA1 := Lib.hid (fun w => ssum_calls (p1 ++ s) w (by rw [ByteArray.size_append]; have := HS.out; omega))
        have HA2 := Lib.hid (fun w => ssum_calls (p2 ++ dig (p1 ++ s)) w (by rw [ByteArray.size_append, dig_size]; omega))
        have hm3 : Hid (dig (p2 ++ dig (p1 ++ s)) = m) := Lib.hid (by rw [← hm2.out, ← hp1e.out, ← hp2e.out]; rfl)
        rw [hm3.out] at HA2
        generalize dig (p1 ++ s) = d1 at HA1 HA2 h2
        have hadd1 := fun w => run_string_add_sum (P := Try.prog) w p1 s h1
        have hadd2 := fun w => run_string_add_sum (P := Try.prog) w p2 d1 h2
        clear hp1 hp2 h1 h2
        go_upto_region 11 with (fail)
        go_region_held3 (fun w' => (convert 34 9 (.slice (some ⟨gi, 0, none⟩) 64 64)).run Try.prog w' = .ok (.string p1) w' ∧ (convert 34 9 (.slice (some ⟨gi + 1, 0, none⟩) 64 64)).run Try.prog w' = .ok (.string p2) w')
          (first | exact HC.out _ (below_next (un_drew hbA) hbB) | exact HC.out _ (un_drew hbA) | exact HC.out _ (Below.refl _ _).drew | exact HC.out _ (Below.refl _ _))
          ((go_at_call 10; (first | ((with_reducible refine (HA2.out _).mono ?_); rintro e w9 ⟨rfl, hbB⟩) | ((with_reducible refine (HA1.out _).mono ?_); rintro e w8 ⟨rfl, hbA⟩))))
        go_wp2
        go_ret
        exact ⟨rfl, hb.out.trans ((below_next (un_drew hbA) hbB).mono hb.out.size)⟩
  · have hbi : ¬ (64 : Int) < (key.size : Int) := by omega
    have hm2 : Hid (macK key s = m) := Lib.hid (by rw [← hm.out]; unfold mac eff; rw [if_neg hbig])
    obtain ⟨k, rfl⟩ : ∃ k, k = key := ⟨_, rfl⟩
    clear hm HK
    go_enter Try.func16, Try.ntmps16
    go_upto_region 3 with (fail)
    go_wp2
    have hP := Lib.hid (Pads.start (Below.refl w.heap.size w) k)
    obtain ⟨gi, hgi⟩ : ∃ gi, gi = w.heap.size := ⟨_, rfl⟩
    rw [← hgi] at hP ⊢
    have hP1 : Hid (∃ wx, wx = (w.alloc (.cells (List.replicate 64 (Value.int .u8 0)).toArray 50)).alloc (.cells (List.replicate 64 (Value.int .u8 0)).toArray 50) ∧ Pads w wx gi k 0) := Lib.hid ⟨_, rfl, hP.out⟩
    obtain ⟨wx, hwx, hP2⟩ := hP1.out
    have hwx2 : wx = (w.alloc (.cells #[.int .u8 0, .int .u8 0, .int .u8 0, .int .u8 0, .int .u8 0, .int .u8 0, .int .u8 0, .int .u8 0, .int .u8 0, .int .u8 0, .int .u8 0, .int .u8 0, .int .u8 0, .int .u8 0, .int .u8 0, .int .u8 0, .int .u8 0, .int .u8 0, .int .u8 0, .int .u8 0, .int .u8 0, .int .u8 0, .int .u8 0, .int .u8 0, .int .u8 0, .int .u8 0, .int .u8 0, .int .u8 0, .int .u8 0, .int .u8 0, .int .u8 0, .int .u8 0, .int .u8 0, .int .u8 0, .int .u8 0, .int .u8 0, .int .u8 0, .int .u8 0, .int .u8 0, .int .u8 0, .int .u8 0, .int .u8 0, .int .u8 0, .int .u8 0, .int .u8 0, .int .u8 0, .int .u8 0, .int .u8 0, .int .u8 0, .int .u8 0, .int .u8 0, .int .u8 0, .int .u8 0, .int .u8 0, .int .u8 0, .int .u8 0, .int .u8 0, .int .u8 0, .int .u8 0, .int .u8 0, .int .u8 0, .int .u8 0, .int .u8 0, .int .u8 0] 50)).alloc (.cells #[.int .u8 0, .int .u8 0, .int .u8 0, .int .u8 0, .int .u8 0, .int .u8 0, .int .u8 0, .int .u8 0, .int .u8 0, .int .u8 0, .int .u8 0, .int .u8 0, .int .u8 0, .int .u8 0, .int .u8 0, .int .u8 0, .int .u8 0, .int .u8 0, .int .u8 0, .int .u8 0, .int .u8 0, .int .u8 0, .int .u8 0, .int .u8 0, .int .u8 0, .int .u8 0, .int .u8 0, .int .u8 0, .int .u8 0, .int .u8 0, .int .u8 0, .int .u8 0, .int .u8 0, .int .u8 0, .int .u8 0, .int .u8 0, .int .u8 0, .int .u8 0, .int .u8 0, .int .u8 0, .int .u8 0, .int .u8 0, .int .u8 0, .int .u8 0, .int .u8 0, .int .u8 0, .int .u8 0, .int .u8 0, .int .u8 0, .int .u8 0, .int .u8 0, .int .u8 0, .int .u8 0, .int .u8 0, .int .u8 0, .int .u8 0, .int .u8 0, .int .u8 0, .int .u8 0, .int .u8 0, .int .u8 0, .int .u8 0, .int .u8 0, .int .u8 0] 50) := hwx
    rw [← hwx2]
    replace hP := Lib.hid hP2
    clear hgi hwx hwx2 hP2 hP1
    go_loopg [13] 65 (fun gk s13 wr => ∃ i, gk = 65 - i ∧ i ≤ 64 ∧ s13 = .int .i64 (i : Int) ∧ Hid (Pads w wr gi k i))
    case atStart => exact ⟨0, rfl, Nat.zero_le _, rfl, hP⟩
    case round =>
      clear hP
      obtain ⟨i, rfl, hi, rfl, hP⟩ := hrel
      have i0 : (0 : Int) ≤ (i : Int) := by omega
      by_cases hlt : i < 64
      · have i64 : (i : Int) < 64 := by omega
        have ca : wr.cell? ⟨gi, i, none⟩ = some (.int .u8 0) := by rw [hP.out.2.2.1.cell, padc_at _ _ hlt, if_neg (by omega)]
        have cb : wr.cell? ⟨gi + 1, i, none⟩ = some (.int .u8 0) := by rw [hP.out.2.2.2.cell, padc_at _ _ hlt, if_neg (by omega)]
        have fa := hP.out.2.2.1.frozen i
        have fb := hP.out.2.2.2.frozen i
        by_cases hin : i < k.size
        · have hin2 : (i : Int) < (k.size : Int) := by omega
          go_upto_region 9 with (fail)
          have da : ((wr.setCell ⟨gi, i, none⟩ (.int .u8 54)).setCell ⟨gi + 1, i, none⟩ (.int .u8 92)).cell? ⟨gi, i, none⟩ = some (.int .u8 54) := by simp [ca, go_sem]
          have db : ((wr.setCell ⟨gi, i, none⟩ (.int .u8 54)).setCell ⟨gi + 1, i, none⟩ (.int .u8 92)).cell? ⟨gi + 1, i, none⟩ = some (.int .u8 92) := by simp [cb, go_sem]
          have ga : ((wr.setCell ⟨gi, i, none⟩ (.int .u8 54)).setCell ⟨gi + 1, i, none⟩ (.int .u8 92)).frozen? ⟨gi, i, none⟩ = false := by rw [World.frozen?_setCell, World.frozen?_setCell]; exact fa
          have gb : ((wr.setCell ⟨gi, i, none⟩ (.int .u8 54)).setCell ⟨gi + 1, i, none⟩ (.int .u8 92)).frozen? ⟨gi + 1, i, none⟩ = false := by rw [World.frozen?_setCell, World.frozen?_setCell]; exact fb
          obtain ⟨w7, hw7⟩ : ∃ w7, Hid ((wr.setCell ⟨gi, i, none⟩ (.int .u8 54)).setCell ⟨gi + 1, i, none⟩ (.int .u8 92) = w7) := ⟨_, Lib.hid rfl⟩
          rw [hw7.out] at da db ga gb ⊢
          clear ca cb fa fb
          go_region
          all_goals
            go_wp2
            go_roundg (65 - (i + 1))
            case measure => omega
            case rel =>
              refine ⟨i + 1, rfl, by omega, by go_num, Lib.hid ?_⟩
              have e1 := kb_xor k hin 54 (by omega)
              have e2 := kb_xor k hin 92 (by omega)
              rw [show ((54 : Nat) : Int) = 54 from rfl] at e1
              rw [show ((92 : Nat) : Int) = 92 from rfl] at e2
              rw [e1, e2, ← hw7.out]
              exact hP.out.step1.drew
        · go_wp2
          go_roundg (65 - (i + 1))
          case measure => omega
          case rel => exact ⟨i + 1, rfl, by omega, by go_num, Lib.hid (hP.out.step0 (by omega))⟩
      · obtain rfl : i = 64 := by omega
        have HC := Lib.hid (fun w' hb => hP.out.conv (w' := w') hb)
        have hb := Lib.hid hP.out.1
        have hp1 := pads_size k 54
        have hp2 := pads_size k 92
        obtain ⟨p1, hp1e⟩ : ∃ p, Hid (pads k 54 = p) := ⟨_, Lib.hid rfl⟩
        obtain ⟨p2, hp2e⟩ : ∃ p, Hid (pads k 92 = p) := ⟨_, Lib.hid rfl⟩
        rw [hp1e.out] at hp1 HC
        rw [hp2e.out] at hp2 HC
        have h1 : p1.size + s.size ≤ 9223372036854775807 := by have := HS.out; omega
        have h2 : p2.size + (dig (p1 ++ s)).size ≤ 9223372036854775807 := by rw [dig_size]; omega
        have HA1 := Lib.hid (fun w => ssum_calls (p1 ++ s) w (by rw [ByteArray.size_append]; have := HS.out; omega))
        have HA2 := Lib.hid (fun w => ssum_calls (p2 ++ dig (p1 ++ s)) w (by rw [ByteArray.size_append, dig_size]; omega))
        have hm3 : Hid (dig (p2 ++ dig (p1 ++ s)) = m) := Lib.hid (by rw [← hm2.out, ← hp1e.out, ← hp2e.out]; rfl)
        rw [hm3.out] at HA2
        generalize dig (p1 ++ s) = d1 at HA1 HA2 h2
        have hadd1 := fun w => run_string_add_sum (P := Try.prog) w p1 s h1
        have hadd2 := fun w => run_string_add_sum (P := Try.prog) w p2 d1 h2
        clear hp1 hp2 h1 h2
        go_upto_region 11 with (fail)
        go_region_held3 (fun w' => (convert 34 9 (.slice (some ⟨gi, 0, none⟩) 64 64)).run Try.prog w' = .ok (.string p1) w' ∧ (convert 34 9 (.slice (some ⟨gi + 1, 0, none⟩) 64 64)).run Try.prog w' = .ok (.string p2) w')
          (first | exact HC.out _ (below_next (un_drew hbA) hbB) | exact HC.out _ (un_drew hbA) | exact HC.out _ (Below.refl _ _).drew | exact HC.out _ (Below.refl _ _))
          ((go_at_call 10; (first | ((with_reducible refine (HA2.out _).mono ?_); rintro e w9 ⟨rfl, hbB⟩) | ((with_reducible refine (HA1.out _).mono ?_); rintro e w8 ⟨rfl, hbA⟩))))
        go_wp2
        go_ret
        exact ⟨rfl, hb.out.trans ((below_next (un_drew hbA) hbB).mono hb.out.size)⟩
end Go.Proofs.Ytblgldllfllcpaa
