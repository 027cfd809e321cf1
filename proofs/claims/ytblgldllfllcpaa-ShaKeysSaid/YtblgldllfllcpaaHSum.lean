/- The walk of Sum of a hash. -/
import Derived.Test.YtblgldllfllcpaaWrite
namespace Go.Proofs.Ytblgldllfllcpaa
open Go.RowKit
theorem u8c_one (l : List Nat) : ∀ u ∈ u8c l, u.oneCell' = true := by
  intro u hu
  obtain ⟨x, _, rfl⟩ := List.mem_map.1 hu
  rfl
namespace Sp
/-- What stands behind the whole blocks, with the 128 and z noughts. -/
def L1 (t : List Nat) (z : Nat) : List Nat := t.drop (64 * (t.length / 64)) ++ [128] ++ List.replicate z 0
theorem L1_succ (t : List Nat) (z : Nat) : L1 t (z + 1) = L1 t z ++ [0] := by
  unfold L1; rw [List.replicate_succ', List.append_assoc _ _ [0]]
/-- With j bytes of the length. -/
def L2 (t : List Nat) (z j : Nat) : List Nat := L1 t z ++ (List.range j).map fun i => t.length * 8 / 2 ^ (56 - 8 * i) % 256
theorem L2_succ (t : List Nat) (z j : Nat) : L2 t z (j + 1) = L2 t z j ++ [t.length * 8 / 2 ^ (56 - 8 * j) % 256] := by
  unfold L2; rw [List.range_succ, List.map_append, List.append_assoc]; rfl
theorem pad_drop (t : List Nat) (z : Nat) (hz : z = noughts t.length) : (pad t).drop (64 * (t.length / 64)) = L2 t z 8 := by
  unfold pad L2 L1 tail8
  rw [List.append_assoc, List.append_assoc, List.drop_append_of_le_length (by omega), hz]
  simp only [List.append_assoc]
theorem pad_prefix (t : List Nat) : blocks H0 (pad t) (t.length / 64) = blocks H0 t (t.length / 64) := by
  unfold pad
  rw [List.append_assoc, List.append_assoc]
  exact blocks_prefix _ _ _ _ (by omega)
theorem pad_lt (t : List Nat) (h : ∀ x ∈ t, x < 256) : ∀ x ∈ pad t, x < 256 := by
  intro x hx
  unfold pad tail8 at hx
  simp only [List.mem_append, List.mem_singleton, List.mem_replicate, List.mem_map] at hx
  rcases hx with ((hx | rfl) | ⟨_, rfl⟩) | ⟨i, _, rfl⟩
  · exact h x hx
  · omega
  · omega
  · exact Nat.mod_lt _ (by omega)
theorem u8c_bytes4 (x : Nat) : u8c (bytes4 x) = [.int .u8 ((x : Int) / 16777216), .int .u8 ((x : Int) / 65536 % 256), .int .u8 ((x : Int) / 256 % 256), .int .u8 ((x : Int) % 256)] := by
  unfold u8c bytes4
  simp only [List.map_cons, List.map_nil]
  rw [show ((x / 16777216 : Nat) : Int) = (x : Int) / 16777216 from by omega, show ((x / 65536 % 256 : Nat) : Int) = (x : Int) / 65536 % 256 from by omega, show ((x / 256 % 256 : Nat) : Int) = (x : Int) / 256 % 256 from by omega, show ((x % 256 : Nat) : Int) = (x : Int) % 256 from by omega]
theorem bytes4_lt {x : Nat} (hx : x < 4294967296) : ∀ y ∈ bytes4 x, y < 256 := by
  intro y hy
  unfold bytes4 at hy
  simp only [List.mem_cons, List.not_mem_nil, or_false] at hy
  omega
theorem bts_out {s : St} (h : s.ok) : bts (strOfNums ((out s).map fun (n : Nat) => (n : Int))) = out s := by
  have hl : ∀ y ∈ out s, y < 256 := by
    intro y hy
    unfold out at hy
    obtain ⟨x, hx, hy⟩ := List.mem_flatMap.1 hy
    refine bytes4_lt ?_ y hy
    obtain ⟨h1, h2, h3, h4, h5, h6, h7, h8⟩ := h
    unfold St.list at hx
    simp only [List.mem_cons, List.not_mem_nil, or_false] at hx
    omega
  unfold bts
  rw [strOfNums_data, List.map_map, List.map_map]
  conv => rhs; rw [← List.map_id (out s)]
  refine List.map_congr_left fun y hy => ?_
  have := hl y hy
  simp [UInt8.toNat_ofNat']
  omega
theorem list_lt {s : St} (h : s.ok) (j : Nat) : s.list.getD j 0 < 4294967296 := by
  obtain ⟨h1, h2, h3, h4, h5, h6, h7, h8⟩ := h
  unfold St.list
  rcases j with _ | _ | _ | _ | _ | _ | _ | _ | j <;> first | assumption | simp
end Sp
theorem info_u32 : (Try.prog.info? 32).map (fun i => (i.zero, i.size, i.bytes)) = some (some (.int .u32 0), 1, 4) := by kernel_rfl
theorem run_index8 (cs : Array Value) (j : Nat) (v : Value) (hj : j < 8) (h : cs[j]? = some v) (W : World) : (Instr.index 33 (.agg cs) (.int .i64 (j : Int))).run Try.prog W = .ok v W := by
  obtain ⟨i, hi, _, hs, _⟩ := info_parts info_u32
  have hu := run_underlying Try.underlying33 W
  simp [Instr.index, part, isAgg, asIntOf, sizeOf, typeInfo, hu, hi, hs, h]
  intro h8
  omega
theorem k0' (k : Nat) : 0 ≤ (k : Int) := by omega
/-- A state stored into a row of eight words. -/
def set8z (w : World) (g : Nat) (s : Sp.St) : World := ((((((((w.setCell ⟨g, 0, none⟩ (.int .u32 ((s.a : Nat) : Int))).setCell ⟨g, 1, none⟩ (.int .u32 ((s.b : Nat) : Int))).setCell ⟨g, 2, none⟩ (.int .u32 ((s.c : Nat) : Int))).setCell ⟨g, 3, none⟩ (.int .u32 ((s.d : Nat) : Int))).setCell ⟨g, 4, none⟩ (.int .u32 ((s.e : Nat) : Int))).setCell ⟨g, 5, none⟩ (.int .u32 ((s.f : Nat) : Int))).setCell ⟨g, 6, none⟩ (.int .u32 ((s.g : Nat) : Int))).setCell ⟨g, 7, none⟩ (.int .u32 ((s.h : Nat) : Int)))
theorem Blk.set8z {w : World} {g : Nat} {t : TypeId} {s0 : Sp.St} (h : Blk w g t (u32s s0.list)) (s : Sp.St) : Blk (set8z w g s) g t (u32s s.list) := by
  have h1 := h.set_ 0 (.int .u32 ((s.a : Nat) : Int))
  have h2 := h1.set_ 1 (.int .u32 ((s.b : Nat) : Int))
  have h3 := h2.set_ 2 (.int .u32 ((s.c : Nat) : Int))
  have h4 := h3.set_ 3 (.int .u32 ((s.d : Nat) : Int))
  have h5 := h4.set_ 4 (.int .u32 ((s.e : Nat) : Int))
  have h6 := h5.set_ 5 (.int .u32 ((s.f : Nat) : Int))
  have h7 := h6.set_ 6 (.int .u32 ((s.g : Nat) : Int))
  have h8 := h7.set_ 7 (.int .u32 ((s.h : Nat) : Int))
  have e : (((((((((u32s s0.list).setIfInBounds 0 (.int .u32 ((s.a : Nat) : Int))).setIfInBounds 1 (.int .u32 ((s.b : Nat) : Int))).setIfInBounds 2 (.int .u32 ((s.c : Nat) : Int))).setIfInBounds 3 (.int .u32 ((s.d : Nat) : Int))).setIfInBounds 4 (.int .u32 ((s.e : Nat) : Int))).setIfInBounds 5 (.int .u32 ((s.f : Nat) : Int))).setIfInBounds 6 (.int .u32 ((s.g : Nat) : Int))).setIfInBounds 7 (.int .u32 ((s.h : Nat) : Int))) = u32s s.list := by simp [u32s, Sp.St.list]
  rw [e] at h8
  exact h8
theorem set8z_below {B : Nat} {w0 w : World} {g : Nat} (h : Below B w0 w) (hg : B ≤ g) (s : Sp.St) : Below B w0 (set8z w g s) := by
  unfold Go.Proofs.Ytblgldllfllcpaa.set8z
  exact ((((((((h.setCell (p := ⟨g, 0, none⟩) hg (.int .u32 ((s.a : Nat) : Int))).setCell (p := ⟨g, 1, none⟩) hg (.int .u32 ((s.b : Nat) : Int))).setCell (p := ⟨g, 2, none⟩) hg (.int .u32 ((s.c : Nat) : Int))).setCell (p := ⟨g, 3, none⟩) hg (.int .u32 ((s.d : Nat) : Int))).setCell (p := ⟨g, 4, none⟩) hg (.int .u32 ((s.e : Nat) : Int))).setCell (p := ⟨g, 5, none⟩) hg (.int .u32 ((s.f : Nat) : Int))).setCell (p := ⟨g, 6, none⟩) hg (.int .u32 ((s.g : Nat) : Int))).setCell (p := ⟨g, 7, none⟩) hg (.int .u32 ((s.h : Nat) : Int)))
theorem row8_facts {w : World} {g : Nat} {t : TypeId} {s1 s2 s3 s4 s5 s6 s7 s8 : Nat} (h : Blk w g t (u32s (Sp.St.list ⟨s1, s2, s3, s4, s5, s6, s7, s8⟩))) :
    (w.cell? ⟨g, 0, none⟩ = some (.int .u32 (s1 : Int)) ∧ w.cell? ⟨g, 1, none⟩ = some (.int .u32 (s2 : Int)) ∧ w.cell? ⟨g, 2, none⟩ = some (.int .u32 (s3 : Int)) ∧ w.cell? ⟨g, 3, none⟩ = some (.int .u32 (s4 : Int)) ∧ w.cell? ⟨g, 4, none⟩ = some (.int .u32 (s5 : Int)) ∧ w.cell? ⟨g, 5, none⟩ = some (.int .u32 (s6 : Int)) ∧ w.cell? ⟨g, 6, none⟩ = some (.int .u32 (s7 : Int)) ∧ w.cell? ⟨g, 7, none⟩ = some (.int .u32 (s8 : Int))) ∧ w.frozen? ⟨g, 0, none⟩ = false ∧ w.frozen? ⟨g, 1, none⟩ = false ∧ w.frozen? ⟨g, 2, none⟩ = false ∧ w.frozen? ⟨g, 3, none⟩ = false ∧ w.frozen? ⟨g, 4, none⟩ = false ∧ w.frozen? ⟨g, 5, none⟩ = false ∧ w.frozen? ⟨g, 6, none⟩ = false ∧ w.frozen? ⟨g, 7, none⟩ = false :=
  ⟨⟨h.cell 0, h.cell 1, h.cell 2, h.cell 3, h.cell 4, h.cell 5, h.cell 6, h.cell 7⟩, h.frozen 0, h.frozen 1, h.frozen 2, h.frozen 3, h.frozen 4, h.frozen 5, h.frozen 6, h.frozen 7⟩
set_option maxHeartbeats 4000000 in
set_option maxRecDepth 100000 in
theorem hsum_calls (w : World) (g : Nat) (b : Option Nat) (t : List Nat) (hh : HashOf w g b t) (hsz : t.length ≤ 1099511627776) :
    Calls Try.prog 14 #[.pointer (some ⟨g, 0, none⟩)] w fun e w' => ∃ str : ByteArray, e = .returned (.string str) ∧ bts str = Sp.sum t ∧ Below w.heap.size w w' := by
  have HH := Lib.hid hh
  obtain ⟨A, c, hB, hown, hbg, hk, hlt⟩ := hh
  obtain ⟨i0, hi0, hz0, hz1, hz2⟩ := info_parts info_u8
  have HI0 := Lib.hid hi0
  have HZ0 := Lib.hid hz0
  have HZ1 := Lib.hid hz1
  have HZ2 := Lib.hid hz2
  clear hi0 hz0 hz1 hz2
  have hN : t.length - 64 * (t.length / 64) < 64 := by omega
  generalize hnn : t.length - 64 * (t.length / 64) = n at *
  have HN := Lib.hid hnn
  clear hnn
  have c0 : w.cell? ⟨g, 0, none⟩ = some (.bool true) := by rw [hB.cell]; rfl
  have c9 : w.cell? ⟨g, 9, none⟩ = some (.slice A n c) := by rw [hB.cell]; rfl
  go_enter Try.func14, Try.ntmps14
  have cA : (w.alloc (.cells #[] 5)).cell? ⟨g, 9, none⟩ = some (.slice A n c) := (below_cell ((Below.refl w.heap.size w).alloc (Nat.le_refl _) _) HH.out.lt).trans c9
  go_wp2_with (first
    | (refine wpList_append_mine rfl (.tmp 18) (.tmp 22) 34 34 rfl 5 i0 (.int .u8 0) 1 Try.underlying34 HI0.out HZ0.out HZ1.out HZ2.out rfl (by decide) rfl (Mine.empty w _ 1 _) ((Below.refl _ _).alloc (Nat.le_refl _) _) (.slice A n c) n _ rfl ((hown.below ((Below.refl _ _).alloc (Nat.le_refl _) _)).src (u8c_one _) Try.underlying34) (by unfold maxLen; omega) (by omega) ?_; intro A1 c1 w1 hm1 hb1; rw [Nat.zero_add, List.nil_append] at hm1)
    | (refine wpList_append_mine rfl (.tmp 24) (.tmp 25) 34 34 rfl 5 i0 (.int .u8 0) 1 Try.underlying34 HI0.out HZ0.out HZ1.out HZ2.out rfl (by decide) rfl (hm1.alloc _) (hb1.alloc hb1.size _) _ 1 [.int .u8 128] rfl (src_new Try.underlying34 _ _ _ 1 1 rfl (by simp [Value.oneCell'])) (by unfold maxLen; omega) (by omega) ?_; intro A2 c2 w2 hm2 hb2))
  obtain ⟨Z, hZ⟩ : ∃ Z, Hid (Z = Sp.noughts t.length) := ⟨_, Lib.hid rfl⟩
  have hZ1 : (n + 1 + Z) % 64 = 56 := by have := hZ.out; have := HN.out; unfold Sp.noughts at *; omega
  have hZ2 : Z < 64 := by have := hZ.out; unfold Sp.noughts at *; omega
  have hm2' : Hid (Mine w w2 1 (.slice A2 (n + 1 + 0) c2) (n + 1 + 0) (u8c (Sp.L1 t 0))) := Lib.hid (by unfold Sp.L1; rw [List.replicate_zero, List.append_nil, u8c_append]; exact hm2)
  have hb2' := Lib.hid hb2
  clear hm1 hb1 hm2 hb2 cA c0 c9 hB hown hbg hk hlt
  go_loopg [3] Z (fun gk s3 wr => ∃ z A c, gk = Z - z ∧ z ≤ Z ∧ s3 = .slice A (n + 1 + z) c ∧ Hid (Mine w wr 1 (.slice A (n + 1 + z) c) (n + 1 + z) (u8c (Sp.L1 t z))) ∧ Hid (Below w.heap.size w wr))
  case atStart => exact ⟨0, A2, c2, rfl, Nat.zero_le _, rfl, hm2', hb2'⟩
  case round =>
    clear hm2' hb2'
    obtain ⟨z, A, c, rfl, hz, rfl, hm, hb⟩ := hrel
    obtain ⟨m, hmm⟩ : ∃ m, n + 1 + z = m := ⟨_, rfl⟩
    rw [hmm] at hm ⊢
    have HM := Lib.hid hmm
    have ht : ((m : Nat) : Int).tmod 64 = ((m % 64 : Nat) : Int) := rfl
    by_cases hlt : z < Z
    · have hne : ¬ (((m % 64 : Nat) : Int) = 56) := by omega
      have hbd : m < 200 := by omega
      clear hmm
      go_wp2_with (first
        | (refine wpList_append_mine rfl (.tmp 31) (.tmp 32) 34 34 rfl 5 i0 (.int .u8 0) 1 Try.underlying34 HI0.out HZ0.out HZ1.out HZ2.out rfl (by decide) rfl (hm.out.alloc _) (hb.out.alloc hb.out.size _) _ 1 [.int .u8 0] rfl (src_new Try.underlying34 _ _ _ 1 1 rfl (by simp [Value.oneCell'])) (by unfold maxLen; omega) (by omega) ?_; intro A3 c3 w3 hm3 hb3))
      go_roundg (Z - (z + 1))
      case measure => omega
      case rel => exact ⟨z + 1, A3, c3, rfl, by omega, by rw [← HM.out]; rfl, Lib.hid (by rw [← Nat.add_assoc, HM.out, Sp.L1_succ, u8c_append]; exact hm3), Lib.hid hb3⟩
    · obtain rfl : z = Z := by omega
      have hne : ((m % 64 : Nat) : Int) = 56 := by omega
      clear hmm
      have hz12 : (8 : Int) * (t.length : Int) < 18446744073709551616 := by omega
      go_wp2
      have hm4 : Hid (Mine w wr 1 (.slice A (m + 0) c) (m + 0) (u8c (Sp.L2 t z 0))) := Lib.hid (by unfold Sp.L2; rw [List.range_zero, List.map_nil, List.append_nil]; exact hm.out)
      have hb4 := hb
      have hmb : m < 200 := by have := HM.out; omega
      clear ht hne
      go_loopg [3, 4] 9 (fun gk s3 s4 wr => ∃ j A c, gk = 9 - j ∧ j ≤ 8 ∧ s4 = .int .i64 (7 - (j : Int)) ∧ s3 = .slice A (m + j) c ∧ Hid (Mine w wr 1 (.slice A (m + j) c) (m + j) (u8c (Sp.L2 t z j))) ∧ Hid (Below w.heap.size w wr))
      case atStart => exact ⟨0, A, c, rfl, Nat.zero_le _, by simp, rfl, hm4, hb4⟩
      case round =>
        clear hm hb hm4 hb4
        obtain ⟨j, A, c, rfl, hj, rfl, rfl, hm, hb⟩ := hrel
        obtain ⟨q, hqq⟩ : ∃ q, m + j = q := ⟨_, rfl⟩
        rw [hqq] at hm ⊢
        have hqb : q < 300 := by omega
        have HQ := Lib.hid hqq
        by_cases hlt : j < 8
        · obtain ⟨i, hi⟩ : ∃ i : Nat, 7 - (j : Int) = (i : Int) := ⟨7 - j, by omega⟩
          rw [hi]
          have hi7 : Hid (i = 7 - j) := Lib.hid (by omega)
          have HI := Lib.hid hi
          have hw8 : IntKind.i64.wrap (8 * (i : Int)) = 8 * (i : Int) := by rw [IntKind.wrap_i64]; omega
          have hi0 : (0 : Int) ≤ (i : Int) := by omega
          have hi8 : (0 : Int) ≤ 8 * (i : Int) := by omega
          have hit : (8 * (i : Int)).toNat = 8 * i := by omega
          have him : min (8 * i) 64 = 8 * i := by omega
          have c10 : wr.cell? ⟨g, 10, none⟩ = some (.int .u64 (t.length : Nat)) := by
            obtain ⟨_, _, hB, _⟩ := HH.out
            rw [below_cell hb.out hB.lt, hB.cell]; rfl
          have hwl : ((t.length : Int) * 8) % 18446744073709551616 = (t.length : Int) * 8 := by omega
          clear hqq hi hj
          go_wp2_with (first
            | (refine wpList_append_mine rfl (.tmp 38) (.tmp 48) 34 34 rfl 5 i0 (.int .u8 0) 1 Try.underlying34 HI0.out HZ0.out HZ1.out HZ2.out rfl (by decide) rfl (hm.out.alloc _) (hb.out.alloc hb.out.size _) _ 1 [.int .u8 ((t.length : Int) * 8 / 2 ^ (8 * i) % 256)] rfl (src_new Try.underlying34 _ _ [.int .u8 ((t.length : Int) * 8 / 2 ^ (8 * i) % 256)] 1 1 rfl (by simp [Value.oneCell'])) (by unfold maxLen; omega) (by omega) ?_; intro A3 c3 w3 hm3 hb3))
          go_roundg (9 - (j + 1))
          case measure => omega
          case rel => exact ⟨j + 1, A3, c3, rfl, by omega, by have := HI.out; congr 1; omega, by rw [← HQ.out]; rfl, Lib.hid (by rw [← Nat.add_assoc, HQ.out, Sp.L2_succ, u8c_append, show 56 - 8 * j = 8 * i from by have := hi7.out; omega]; exact hm3), Lib.hid hb3⟩
        · obtain rfl : j = 8 := by omega
          rw [show (7 : Int) - ((8 : Nat) : Int) = -1 from rfl]
          obtain ⟨Ap, cp, heq, hqc, _, hrow⟩ := hm.out.row
          cases heq
          obtain ⟨pb, po, rfl, hpb, hcells⟩ : ∃ pb po, A = some ⟨pb, po, none⟩ ∧ pb < wr.heap.size ∧ ∀ i, i < q → wr.cell? ⟨pb, po + i, none⟩ = some (.int .u8 (((Sp.L2 t z 8).getD i 0 : Nat) : Int)) := by
            rcases hrow with h0 | ⟨pb, po, h1, h2, h3⟩
            · omega
            · refine ⟨pb, po, h1, h2, fun i hi => ?_⟩
              rw [h3 i (by omega)]
              exact congrArg some (u8c_at _ (by have := hm.out.len; rw [u8c_length] at this; omega))
          have hlen : Hid ((Sp.L2 t z 8).length = q) := Lib.hid (by have := hm.out.len; rw [u8c_length] at this; omega)
          have HC := Lib.hid hcells
          clear hcells hrow
          obtain ⟨st, hst⟩ : ∃ st, Hid (Sp.blocks Sp.H0 t (t.length / 64) = st) := ⟨_, Lib.hid rfl⟩
          obtain ⟨A0, cc0, hB0, _⟩ := HH.out
          have hB1 := hB0.below hb.out hB0.lt
          rw [hst.out] at hB1
          obtain ⟨s1, s2, s3, s4, s5, s6, s7, s8⟩ := st
          obtain ⟨⟨c1, c2, c3, c4, c5, c6, c7, c8⟩, -⟩ := state_facts hB1
          clear hB0 hB1 hqq hm
          go_wp2_with (first | (refine wpList_store_row rfl 33 (.tmp 5) (.tmp 53) rfl wr.heap.size _ rfl rfl 33 _ (heap_alloc_new _ _) (by kernel_rfl) (by rfl) (by simp [Value.oneCell']) ?_; rw [World.setRow_alloc_new]))
          show Code.wp _ _ _ (Act.mk _ _) _
          obtain ⟨g5, hg5⟩ : ∃ g5, g5 = wr.heap.size := ⟨_, rfl⟩
          have hpb5 : pb < g5 := by rw [hg5]; exact hpb
          have hwg5 : w.heap.size ≤ g5 := by rw [hg5]; exact hb.out.size
          have hblk0 : Hid (Blk (wr.alloc (.cells #[.int .u32 (s1 : Int), .int .u32 (s2 : Int), .int .u32 (s3 : Int), .int .u32 (s4 : Int), .int .u32 (s5 : Int), .int .u32 (s6 : Int), .int .u32 (s7 : Int), .int .u32 (s8 : Int)] 33)) g5 33 (u32s (Sp.St.list ⟨s1, s2, s3, s4, s5, s6, s7, s8⟩))) := Lib.hid (by rw [hg5]; exact Blk.new _ _ _)
          have hkeep0 : Hid (Below g5 wr (wr.alloc (.cells #[.int .u32 (s1 : Int), .int .u32 (s2 : Int), .int .u32 (s3 : Int), .int .u32 (s4 : Int), .int .u32 (s5 : Int), .int .u32 (s6 : Int), .int .u32 (s7 : Int), .int .u32 (s8 : Int)] 33))) := Lib.hid (by rw [hg5]; exact (Below.refl _ _).alloc (Nat.le_refl _) _)
          rw [← hg5]
          generalize World.alloc wr _ = wx at hblk0 hkeep0 ⊢
          have HG5 := Lib.hid hg5
          have hpad : Hid ((Sp.pad t).drop (64 * (t.length / 64)) = Sp.L2 t z 8) := Lib.hid (Sp.pad_drop t z hZ.out)
          have hst0 : Hid (Sp.blocks Sp.H0 (Sp.pad t) (t.length / 64) = ⟨s1, s2, s3, s4, s5, s6, s7, s8⟩) := Lib.hid (by rw [← hst.out]; exact Sp.pad_prefix t)
          obtain ⟨q0, hq0⟩ : ∃ q0, q0 = t.length / 64 := ⟨_, rfl⟩
          rw [← hq0] at hpad hst0
          have hq64 : q % 64 = 0 := by have := Sp.pad_mod t; have e := congrArg List.length hpad.out; rw [List.length_drop, hlen.out] at e; omega
          have HQ0 := Lib.hid hq0
          have hpl : Hid (∀ x ∈ Sp.pad t, x < 256) := Lib.hid (by
            obtain ⟨_, _, _, _, _, _, hlt⟩ := HH.out
            exact Sp.pad_lt t hlt)
          obtain ⟨wv, rfl⟩ : ∃ x, x = wr := ⟨_, rfl⟩
          clear hq0 hg5 hst c1 c2 c3 c4 c5 c6 c7 c8
          go_loopg [3] (q / 64 + 1) (fun gk s3 wr => ∃ k A c st, gk = q / 64 + 1 - k ∧ 64 * k ≤ q ∧ s3 = .slice A (q - 64 * k) c ∧ (q - 64 * k = 0 ∨ (A = some ⟨pb, po + 64 * k, none⟩ ∧ q - 64 * k ≤ c)) ∧ Hid (Sp.blocks Sp.H0 (Sp.pad t) (q0 + k) = st) ∧ Hid (Blk wr g5 33 (u32s st.list)) ∧ Hid (Below g5 wv wr))
          case atStart => exact ⟨0, _, _, _, rfl, by omega, rfl, .inr ⟨rfl, hqc⟩, hst0, hblk0, hkeep0⟩
          case round =>
            clear hblk0 hkeep0 hst0
            obtain ⟨k, A, c, st, rfl, hk, rfl, hA, hst, hblk, hkeep⟩ := hrel
            obtain ⟨m', hm'⟩ : ∃ m', q - 64 * k = m' := ⟨_, rfl⟩
            rw [hm'] at hA ⊢
            have HM' := Lib.hid hm'
            by_cases hpos : 0 < m'
            · have h64 : 64 ≤ m' := by omega
              obtain ⟨rfl, hcap⟩ := hA.resolve_left (by omega)
              clear hA
              obtain ⟨s1, s2, s3, s4, s5, s6, s7, s8⟩ := st
              have hB := hblk.out
              obtain ⟨⟨c1, c2, c3, c4, c5, c6, c7, c8⟩, -⟩ := row8_facts hB
              have hrow : Hid (Row wr (some ⟨pb, po + 64 * k, none⟩) 64 fun j => .int .u8 ((((Sp.pad t).drop (64 * (q0 + k))).getD j 0 : Nat) : Int)) := Lib.hid (by
                refine .inr ⟨pb, po + 64 * k, rfl, Nat.lt_of_lt_of_le (by rw [← HG5.out]; exact hpb5) hkeep.out.size, fun j hj => ?_⟩
                rw [hkeep.out.cell (p := ⟨pb, po + 64 * k + j, none⟩) hpb5, Nat.add_assoc, HC.out (64 * k + j) (by omega), Nat.mul_add, ← List.drop_drop, hpad.out]
                simp [List.getD_eq_getElem?_getD, List.getElem?_drop])
              have hbb : Hid (∀ j, ((Sp.pad t).drop (64 * (q0 + k))).getD j 0 < 256) := Lib.hid fun j => by
                rw [List.getD_eq_getElem?_getD, List.getElem?_drop]
                cases hj : (Sp.pad t)[64 * (q0 + k) + j]? with
                | none => simp
                | some x => exact hpl.out x (List.mem_of_getElem? hj)
              have HOK : Hid (Sp.St.ok ⟨s1, s2, s3, s4, s5, s6, s7, s8⟩) := Lib.hid (by rw [← hst.out]; exact Sp.blocks_ok Sp.H0_ok _ _)
              obtain ⟨st', hst'⟩ : ∃ st', Hid (Sp.mixW ⟨s1, s2, s3, s4, s5, s6, s7, s8⟩ (Sp.w16 fun j => ((Sp.pad t).drop (64 * (q0 + k))).getD j 0) = st') := ⟨_, Lib.hid rfl⟩
              have M := Lib.hid (mix_calls ⟨s1, s2, s3, s4, s5, s6, s7, s8⟩ (some ⟨pb, po + 64 * k, none⟩) 64 c (fun j => ((Sp.pad t).drop (64 * (q0 + k))).getD j 0) wr.drew (Nat.le_refl _) (by decide) (hrow.out.drewN 1) hbb #[.int .u32 ((s1 : Nat) : Int), .int .u32 ((s2 : Nat) : Int), .int .u32 ((s3 : Nat) : Int), .int .u32 ((s4 : Nat) : Int), .int .u32 ((s5 : Nat) : Int), .int .u32 ((s6 : Nat) : Int), .int .u32 ((s7 : Nat) : Int), .int .u32 ((s8 : Nat) : Int)] (Lib.hid rfl) HOK.out)
              have hbk : Hid (Sp.blocks Sp.H0 (Sp.pad t) (q0 + (k + 1)) = st') := Lib.hid (by rw [← Nat.add_assoc, ← Sp.mix_step, hst.out]; exact hst'.out)
              obtain ⟨r1, r2, r3, r4, r5, r6, r7, r8⟩ := st'
              have h64i : (64 : Int) ≤ (m' : Int) := by omega
              have hpi : (0 : Int) < (m' : Int) := by omega
              have hc64 : (64 : Int) ≤ (c : Int) := by omega
              have hc0 : ¬ c = 0 := by omega
              clear hm'
              go_upto_region 14 with (fail)
              go_region_with (first | (go_at_call 23; (refine M.out.mono ?_); (rintro e w1 ⟨rfl, hbl⟩); (rw [hst'.out, u32s_list]); have hB1 := (Blk.drew hB).below hbl hB.lt; obtain ⟨⟨d1, d2, d3, d4, d5, d6, d7, d8⟩, e1, e2, e3, e4, e5, e6, e7, e8⟩ := row8_facts hB1))
              all_goals
                generalize hw2 : (World.setCell (World.setCell (World.setCell (World.setCell (World.setCell (World.setCell (World.setCell (World.setCell w1 _ _) _ _) _ _) _ _) _ _) _ _) _ _) _ _) = w2
                obtain rfl : w2 = set8z w1 g5 ⟨r1, r2, r3, r4, r5, r6, r7, r8⟩ := hw2.symm
                have hB2 := Lib.hid (Blk.set8z hB1 ⟨r1, r2, r3, r4, r5, r6, r7, r8⟩)
                have hk1 : Below g5 wv w1 := hkeep.out.drew.trans (hbl.mono (Nat.le_of_lt hB.lt))
                have hk2 := Lib.hid (set8z_below hk1 (Nat.le_refl g5) ⟨r1, r2, r3, r4, r5, r6, r7, r8⟩)
                generalize set8z w1 g5 ⟨r1, r2, r3, r4, r5, r6, r7, r8⟩ = w2 at hB2 hk2 ⊢
                clear d1 d2 d3 d4 d5 d6 d7 d8 e1 e2 e3 e4 e5 e6 e7 e8 c1 c2 c3 c4 c5 c6 c7 c8 hB1 hbl M hrow hbb hB hblk hkeep hk1 HOK
                have K64 := Lib.hid hq64
                have KH := Lib.hid hk
                have HCAP := Lib.hid hcap
                clear hw2 hq64 hk hqc hcap hpb hpb5 hwg5 hqb hmb hz hj hlt hz12
                go_wp2
              all_goals
                have hme : m' - 64 = q - 64 * (k + 1) := by have := HM'.out; omega
                have hmc := HCAP.out
                have hm64 : m' % 64 = 0 := by have := HM'.out; have := K64.out; omega
                go_roundg (q / 64 + 1 - (k + 1))
                case measure => have := HM'.out; have := K64.out; omega
                case rel =>
                  refine ⟨k + 1, _, _, ⟨r1, r2, r3, r4, r5, r6, r7, r8⟩, rfl, by have := HM'.out; omega, by rw [← hme], ?_, hbk, hB2, hk2⟩
                  first
                    | exact .inl (by omega)
                    | exact .inr ⟨by rw [Nat.mul_add, ← Nat.add_assoc], by omega⟩
            · obtain rfl : m' = 0 := by omega
              have hfin : Hid (Sp.sum t = Sp.out st) := Lib.hid (by
                unfold Sp.sum
                have e := congrArg List.length hpad.out
                rw [List.length_drop, hlen.out] at e
                have hq0 := HQ0.out
                have hp := Sp.pad_length t
                rw [show (Sp.pad t).length / 64 = q0 + k from by omega, hst.out])
              have hok : Hid st.ok := Lib.hid (by rw [← hst.out]; exact Sp.blocks_ok Sp.H0_ok _ _)
              have hbw : Below w.heap.size w wr := by
                have h1 := hb.out
                have h2 := hkeep.out
                exact h1.trans (h2.mono hwg5)
              have hblk' := hblk.out
              clear hkeep hst hm' hA
              clear hq64 hk hqc hpb hpb5 hwg5 hqb hmb hz hj hlt hz12
              go_wp2_with (first
                | (refine wpList_make_own wr rfl _ _ 34 rfl w.heap.size 5 i0 (.int .u8 0) 1 Try.underlying34 HI0.out HZ0.out HZ1.out .i64 .i64 32 32 rfl rfl rfl (by rw [HZ2.out]; decide) (by decide) hbw.size ?_; intro w5 how hgr; have hm5 := Mine.of_ownsRow how; have hb5 := below_grown hbw hgr nofun; have hblk5 := Blk.carry_ hblk' (hgr.block g5 hblk'.lt nofun))
                | (refine wpList_load_row rfl 33 (.tmp 5) rfl g5 rfl 33 (u32s st.list) (0, 0) _ hblk5 Try.underlying33 rfl (by kernel_rfl) ?_))
              have hm6 := Lib.hid hm5
              have hb6 := Lib.hid hb5
              have hls : st.list.length = 8 := rfl
              have HOK := hok
              obtain ⟨cs, hcs⟩ : ∃ cs, Hid (u32s st.list = cs) := ⟨_, Lib.hid rfl⟩
              rw [hcs.out]
              clear hm5 hb5 hblk5 hblk' hbw hblk hb how hgr
              go_loopg [6, 65] 9 (fun gk s6 s65 wr => ∃ j A c, gk = 9 - j ∧ j ≤ 8 ∧ s65 = .int .i64 (j : Int) ∧ s6 = .slice A (4 * j) c ∧ Hid (Mine w wr 1 (.slice A (4 * j) c) (4 * j) (u8c ((st.list.take j).flatMap Sp.bytes4))) ∧ Hid (Below w.heap.size w wr))
              case atStart => exact ⟨0, _, _, rfl, Nat.zero_le _, rfl, rfl, hm6, hb6⟩
              case round =>
                clear hm6 hb6
                obtain ⟨j, A, c, rfl, hj, rfl, rfl, hm, hb⟩ := hrel
                obtain ⟨m4, hm4⟩ : ∃ m4, 4 * j = m4 := ⟨_, rfl⟩
                rw [hm4] at hm ⊢
                have HM4 := Lib.hid hm4
                by_cases hlt : j < 8
                · have hx : cs[j]? = some (.int .u32 ((st.list.getD j 0 : Nat) : Int)) := by rw [← hcs.out]; exact u32s_get (by rw [hls]; exact hlt)
                  have htake : Hid ((st.list.take (j + 1)).flatMap Sp.bytes4 = (st.list.take j).flatMap Sp.bytes4 ++ Sp.bytes4 (st.list.getD j 0)) := Lib.hid (by
                    rw [List.take_add_one, List.flatMap_append, List.getD_eq_getElem?_getD, List.getElem?_eq_getElem (by rw [hls]; exact hlt)]
                    simp)
                  have hxl : st.list.getD j 0 < 4294967296 := Sp.list_lt HOK.out j
                  generalize st.list.getD j 0 = x at hx htake hxl
                  have j8 : (j : Int) < 8 := by omega
                  have hjj := k0' j
                  have hix := run_index8 cs j _ hlt hx
                  have hmb4 : m4 ≤ 28 := by omega
                  clear hm4 hls hx
                  go_wp2_with (first
                    | (refine wpList_append_mine rfl (.tmp 68) (.tmp 80) 34 34 rfl 5 i0 (.int .u8 0) 1 Try.underlying34 HI0.out HZ0.out HZ1.out HZ2.out rfl (by decide) rfl (hm.out.alloc _) (hb.out.alloc hb.out.size _) _ 4 [.int .u8 ((x : Int) / 16777216), .int .u8 ((x : Int) / 65536 % 256), .int .u8 ((x : Int) / 256 % 256), .int .u8 ((x : Int) % 256)] rfl (src_new Try.underlying34 _ _ [.int .u8 ((x : Int) / 16777216), .int .u8 ((x : Int) / 65536 % 256), .int .u8 ((x : Int) / 256 % 256), .int .u8 ((x : Int) % 256)] 4 4 rfl (by simp [Value.oneCell'])) (by unfold maxLen; omega) (by omega) ?_; intro A3 c3 w3 hm3 hb3))
                  go_roundg (9 - (j + 1))
                  case measure => omega
                  case rel => exact ⟨j + 1, A3, c3, rfl, by omega, by go_num, by rw [Nat.mul_add, HM4.out], Lib.hid (by rw [Nat.mul_add, HM4.out, htake.out, u8c_append, Sp.u8c_bytes4]; exact hm3), Lib.hid hb3⟩
                · obtain rfl : j = 8 := by omega
                  obtain rfl : m4 = 32 := by omega
                  obtain ⟨Ap, cp, heq, hqc, _, hrow⟩ := hm.out.row
                  cases heq
                  obtain ⟨pb2, po2, rfl, hpb2, hcl⟩ : ∃ pb po, A = some ⟨pb, po, none⟩ ∧ pb < wr.heap.size ∧ ∀ i, i < 32 → wr.cell? ⟨pb, po + i, none⟩ = some (.int .u8 ((((Sp.out st).map fun (n : Nat) => (n : Int)).getD i 0))) := by
                    rcases hrow with h0 | ⟨pb, po, h1, h2, h3⟩
                    · omega
                    · refine ⟨pb, po, h1, h2, fun i hi => ?_⟩
                      rw [h3 i (by omega)]
                      have hl32 : ((st.list.take 8).flatMap Sp.bytes4).length = 32 := by have := hm.out.len; rw [u8c_length] at this; exact this
                      refine (congrArg some (u8c_at _ (by omega))).trans ?_
                      have e8 : (st.list.take 8).flatMap Sp.bytes4 = Sp.out st := rfl
                      rw [e8] at hl32 ⊢
                      rw [List.getD_eq_getElem?_getD, List.getD_eq_getElem?_getD, List.getElem?_map, List.getElem?_eq_getElem (by omega)]
                      rfl
                  have hcv := run_convert_bytes_arg (P := Try.prog) wr 34 5 (by kernel_rfl) (by kernel_rfl) pb2 po2 32 c ((Sp.out st).map fun (n : Nat) => (n : Int)) (by rfl) hcl 9 (by kernel_rfl)
                  have hres : Hid (bts (strOfNums ((Sp.out st).map fun (n : Nat) => (n : Int))) = Sp.sum t) := Lib.hid (by rw [hfin.out]; exact Sp.bts_out HOK.out)
                  clear hcl hrow hm hm4 hls
                  generalize strOfNums ((Sp.out st).map fun (n : Nat) => (n : Int)) = str at hcv hres
                  go_wp2
                  go_ret
                  exact ⟨str, rfl, hres.out, hb.out⟩
end Go.Proofs.Ytblgldllfllcpaa
