/- The walk of mix: four loops; its answer is the state behind a block, and nothing below has turned. -/
import Derived.Test.YtblgldllfllcpaaMixQ
import Derived.StillTailTactics
import Derived.Deep.QuietTactic
import Derived.BigQuiet
import Derived.Deep.Cut
namespace Go.Proofs.Ytblgldllfllcpaa
open Go.RowKit
theorem cast64 : ((64 : Nat) : Int) = 64 := rfl
theorem cast16 : ((16 : Nat) : Int) = 16 := rfl
theorem next_lt (l : List Nat) : Sp.next l < 4294967296 := Nat.mod_lt _ (by omega)
theorem getD_lt {l : List Nat} (h : Sp.allLt l) (j : Nat) : l.getD j 0 < 4294967296 := by
  rw [List.getD_eq_getElem?_getD]
  cases hj : l[j]? with
  | none => simp
  | some x => exact h x (List.mem_of_getElem? hj)
/-- The sum of the schedule, as the walk writes it. -/
theorem next_eq (a b c d : Nat) (_ha : a < 4294967296) (hb : b < 4294967296) (_hc : c < 4294967296) (hd : d < 4294967296) :
    ((a : Int) + bits .xor .u32 (bits .xor .u32 ((Sp.rotr b 7 : Nat) : Int) ((Sp.rotr b 18 : Nat) : Int)) ((b : Int) / 8) + (c : Int) +
      bits .xor .u32 (bits .xor .u32 ((Sp.rotr d 17 : Nat) : Int) ((Sp.rotr d 19 : Nat) : Int)) ((d : Int) / 1024)) % 4294967296 = (((a + Sp.s0 b + c + Sp.s1 d) % 4294967296 : Nat) : Int) := by
  rw [show (b : Int) / 8 = ((b / 8 : Nat) : Int) from by omega, show (d : Int) / 1024 = ((d / 1024 : Nat) : Int) from by omega]
  rw [u32_xor_nat _ _ (Sp.rotr_lt _ _) (Sp.rotr_lt _ _), u32_xor_nat _ _ (Sp.xor_lt (Sp.rotr_lt _ _) (Sp.rotr_lt _ _)) (by omega)]
  rw [u32_xor_nat _ _ (Sp.rotr_lt _ _) (Sp.rotr_lt _ _), u32_xor_nat _ _ (Sp.xor_lt (Sp.rotr_lt _ _) (Sp.rotr_lt _ _)) (by omega)]
  unfold Sp.s0 Sp.s1
  omega
theorem u32_not (e : Nat) (he : e < 4294967296) : bits .xor .u32 (if IntKind.u32.signed = true then -1 else IntKind.u32.max) (e : Int) = ((4294967295 - e : Nat) : Int) := by
  rw [show (if IntKind.u32.signed = true then -1 else IntKind.u32.max : Int) = ((4294967295 : Nat) : Int) from rfl, u32_xor_nat _ _ (by omega) he]
  congr 1
  apply Nat.eq_of_testBit_eq
  intro i
  have h := Nat.testBit_two_pow_sub_succ (n := 32) he i
  have h2 := Nat.testBit_two_pow_sub_succ (n := 32) (x := 0) (by omega) i
  rw [show 2 ^ 32 - (e + 1) = 4294967295 - e from by omega] at h
  rw [show 2 ^ 32 - (0 + 1) = 4294967295 from rfl] at h2
  rw [Nat.testBit_xor, h, h2]
  by_cases hi : i < 32
  · simp [hi]
  · have : e.testBit i = false := Nat.testBit_lt_two_pow (Nat.lt_of_lt_of_le (show e < 2 ^ 32 from he) (Nat.pow_le_pow_right (by omega) (Nat.le_of_not_lt hi)))
    simp [hi, this]
theorem t_eq (e f g h8 kk ww : Nat) (he : e < 4294967296) (hf : f < 4294967296) (hg : g < 4294967296) :
    ((((h8 : Int) + bits .xor .u32 (bits .xor .u32 ((Sp.rotr e 6 : Nat) : Int) ((Sp.rotr e 11 : Nat) : Int)) ((Sp.rotr e 25 : Nat) : Int) +
      bits .xor .u32 (bits .and .u32 (e : Int) (f : Int)) (bits .and .u32 (bits .xor .u32 (if IntKind.u32.signed = true then -1 else IntKind.u32.max) (e : Int)) (g : Int)) + (kk : Int)) % 4294967296 + (ww : Int)) % 4294967296) =
      (((h8 + Sp.S1 e + Sp.ch e f g + kk + ww) % 4294967296 : Nat) : Int) := by
  rw [u32_not e he, u32_and_nat _ _ he hf, u32_and_nat _ _ (by omega) hg, u32_xor_nat _ _ (Sp.and_lt hf) (Sp.and_lt hg), u32_xor_nat _ _ (Sp.rotr_lt _ _) (Sp.rotr_lt _ _), u32_xor_nat _ _ (Sp.xor_lt (Sp.rotr_lt _ _) (Sp.rotr_lt _ _)) (Sp.rotr_lt _ _)]
  unfold Sp.S1 Sp.ch
  omega
theorem u_eq (a b c : Nat) (ha : a < 4294967296) (hb : b < 4294967296) (hc : c < 4294967296) :
    ((bits .xor .u32 (bits .xor .u32 ((Sp.rotr a 2 : Nat) : Int) ((Sp.rotr a 13 : Nat) : Int)) ((Sp.rotr a 22 : Nat) : Int) +
      bits .xor .u32 (bits .xor .u32 (bits .and .u32 (a : Int) (b : Int)) (bits .and .u32 (a : Int) (c : Int))) (bits .and .u32 (b : Int) (c : Int))) % 4294967296) =
      (((Sp.S0 a + Sp.maj a b c) % 4294967296 : Nat) : Int) := by
  rw [u32_and_nat _ _ ha hb, u32_and_nat _ _ ha hc, u32_and_nat _ _ hb hc, u32_xor_nat _ _ (Sp.and_lt hb) (Sp.and_lt hc), u32_xor_nat _ _ (Sp.xor_lt (Sp.and_lt hb) (Sp.and_lt hc)) (Sp.and_lt hc),
    u32_xor_nat _ _ (Sp.rotr_lt _ _) (Sp.rotr_lt _ _), u32_xor_nat _ _ (Sp.xor_lt (Sp.rotr_lt _ _) (Sp.rotr_lt _ _)) (Sp.rotr_lt _ _)]
  unfold Sp.S0 Sp.maj
  omega
/-- Eight sums, j of them done. -/
def pl (hl vl : List Nat) (j : Nat) : List Nat := (List.range 8).map fun i => if i < j then (hl.getD i 0 + vl.getD i 0) % 4294967296 else hl.getD i 0
theorem pl_length (hl vl : List Nat) (j : Nat) : (pl hl vl j).length = 8 := by simp [pl]
theorem pl_at {hl vl : List Nat} {j : Nat} (h : j < 8) : (pl hl vl j).getD j 0 = hl.getD j 0 := by
  unfold pl
  rw [List.getD_eq_getElem?_getD, List.getElem?_map, List.getElem?_range h]
  simp
theorem pl_set (hl vl : List Nat) (j : Nat) : (pl hl vl j).set j ((hl.getD j 0 + vl.getD j 0) % 4294967296) = pl hl vl (j + 1) := by
  apply List.ext_getElem?
  intro i
  unfold pl
  rw [List.getElem?_set]
  by_cases hi : i < 8
  · by_cases hij : j = i
    · subst hij
      simp [hi]
    · rw [if_neg hij, List.getElem?_map, List.getElem?_map, List.getElem?_range hi]
      by_cases h1 : i < j
      · simp [h1, show i < j + 1 from by omega]
      · simp [h1, show ¬ i < j + 1 from by omega]
  · by_cases hij : j = i
    · subst hij
      simp [hi]
    · rw [if_neg hij]; simp [hi]
theorem pl_done (h v : Sp.St) : pl h.list v.list 8 = (Sp.plus h v).list := rfl
theorem pl_none (h v : Sp.St) : pl h.list v.list 0 = h.list := rfl
/-- What the last loop of mix keeps. -/
def X4 (w wr : World) (g10 : Nat) (h s : Sp.St) (j : Nat) : Prop :=
  Below w.heap.size w wr ∧ Blk wr w.heap.size 33 (u32s (pl h.list s.list j)) ∧ (∃ z : Array Value, Hid (z.size = 8) ∧ Blk wr (w.heap.size + 1) 33 z) ∧ (w.heap.size + 3 ≤ g10 ∧ Blk wr g10 33 (u32s s.list))
theorem x4_start {w wr : World} {cs ws vs : Array Value} {g10 : Nat} {h s : Sp.St} (hin : MixIn w wr cs ws) (hB : Blk wr g10 33 vs) (hcs : Hid (cs = u32s h.list)) (hvs : Hid (vs = u32s s.list)) (hg : w.heap.size + 3 ≤ g10) : X4 w wr g10 h s 0 := by
  obtain ⟨h1, h2, h3, _⟩ := hin
  rw [hcs.out] at h2
  rw [hvs.out] at hB
  exact ⟨h1, h2, h3, hg, hB⟩
theorem X4.step {w wr : World} {g10 : Nat} {h s : Sp.St} {j : Nat} (hx : X4 w wr g10 h s j) : X4 w (wr.setCell ⟨w.heap.size, j, none⟩ (.int .u32 (((h.list.getD j 0 + s.list.getD j 0) % 4294967296 : Nat) : Int))).drew g10 h s (j + 1) := by
  obtain ⟨h1, h2, ⟨z, hz, h3⟩, hg, h4⟩ := hx
  refine ⟨below_setCell_drew h1 (Nat.le_refl _) _, ?_, ⟨z, hz, (h3.far (by omega) _).drew⟩, hg, (h4.far (by omega) _).drew⟩
  have := (h2.set_ j (.int .u32 (((h.list.getD j 0 + s.list.getD j 0) % 4294967296 : Nat) : Int))).drew
  rw [u32s_set, pl_set] at this
  exact this
def RndIn (w wr : World) (cs ws : Array Value) (g10 g11 : Nat) (vs : Array Value) : Prop := MixIn w wr cs ws ∧ Blk wr g10 33 vs ∧ Blk wr g11 51 (u32s Sp.K)
set_option maxHeartbeats 4000000 in
set_option maxRecDepth 100000 in
theorem mix_calls (h : Sp.St) (A : Option Addr) (n c : Nat) (b : Nat → Nat) (w : World) (hn : 64 ≤ n) (hN : n ≤ 100) (hA : Row w A n fun j => .int .u8 (b j)) (hb : Hid (∀ j, b j < 256)) (cs : Array Value) (hcs : Hid (cs = u32s h.list)) (hok : h.ok) :
    Calls Try.prog 23 #[.agg cs, .slice A n c] w fun e w' => e = .returned (.agg (u32s (Sp.mixW h (Sp.w16 b)).list)) ∧ Below w.heap.size w w' := by
  rcases hA with hA | ⟨pb, po, rfl, hpb, hpc⟩
  · omega
  have HPC := Lib.hid hpc
  clear hpc
  have k0 : ∀ k : Nat, 0 ≤ (k : Int) := fun k => by omega
  go_enter Try.func23, Try.ntmps23
  go_wp2
  go_loopw [18] (fun i wr => ∃ (k : Nat) (ws : Array Value), k ≤ 16 ∧ i = .int .i64 k ∧ Hid (ws = wrow ((List.range k).map (Sp.wd b))) ∧ MixIn w wr cs ws) (fun i _ => 16 - (intOf i).toNat)
  case atStart => exact ⟨0, _, by omega, rfl, Lib.hid (by rfl), mixIn_start w cs _ _ rfl⟩
  case round =>
    obtain ⟨k, ws, hk, rfl, hws, hin⟩ := hrel
    by_cases hlt : k < 16
    · have HIN := Lib.hid hin
      obtain ⟨hbl, _, _, hB2⟩ := hin
      have hl : ((List.range k).map (Sp.wd b)).length = k := by simp
      have hwk : ws[k]? = some (.int .u32 0) := by
        have := wrow_zero (l := (List.range k).map (Sp.wd b)) (by omega)
        rw [hl] at this; rw [hws.out]; exact this
      have cw := (hB2.cell k).trans hwk
      have fw := hB2.frozen k
      have c0 := (below_cell hbl (o := po + 4 * k) hpb).trans (HPC.out (4 * k) (by omega))
      have c1 := (below_cell hbl (o := po + (4 * k + 1)) hpb).trans (HPC.out (4 * k + 1) (by omega))
      have c2 := (below_cell hbl (o := po + (4 * k + 2)) hpb).trans (HPC.out (4 * k + 2) (by omega))
      have c3 := (below_cell hbl (o := po + (4 * k + 3)) hpb).trans (HPC.out (4 * k + 3) (by omega))
      have E := Lib.hid (or4 (b (4*k)) (b (4*k+1)) (b (4*k+2)) (b (4*k+3)) (hb.out _) (hb.out _) (hb.out _) (hb.out _))
      have HL : Hid (ws.setIfInBounds k (.int .u32 ((Sp.wd b k : Nat) : Int)) = wrow ((List.range (k + 1)).map (Sp.wd b))) := by
        have := wrow_set (l := (List.range k).map (Sp.wd b)) (by omega) (Sp.wd b k)
        rw [hl] at this
        show _ = _
        rw [hws.out, this, List.range_succ, List.map_append]; rfl
      clear hws hwk hB2 hbl hl
      go_wp2
      have q0 : IntKind.i64.wrap (4 * (k : Int)) = 4 * (k : Int) := by rw [IntKind.wrap_i64]; omega
      have q1 : IntKind.i64.wrap (4 * (k : Int) + 1) = 4 * (k : Int) + 1 := by rw [IntKind.wrap_i64]; omega
      have q2 : IntKind.i64.wrap (4 * (k : Int) + 2) = 4 * (k : Int) + 2 := by rw [IntKind.wrap_i64]; omega
      have q3 : IntKind.i64.wrap (4 * (k : Int) + 3) = 4 * (k : Int) + 3 := by rw [IntKind.wrap_i64]; omega
      have t0 : (4 * (k : Int)).toNat = 4 * k := by omega
      have t1 : (4 * (k : Int) + 1).toNat = 4 * k + 1 := by omega
      have t2 : (4 * (k : Int) + 2).toNat = 4 * k + 2 := by omega
      have t3 : (4 * (k : Int) + 3).toNat = 4 * k + 3 := by omega
      have l0 : (4 * (k : Int)) < (n : Int) := by omega
      have l1 : (4 * (k : Int) + 1) < (n : Int) := by omega
      have l2 : (4 * (k : Int) + 2) < (n : Int) := by omega
      have l3 : (4 * (k : Int) + 3) < (n : Int) := by omega
      have p0 : 0 ≤ (4 * (k : Int)) := by omega
      have p1 : 0 ≤ (4 * (k : Int) + 1) := by omega
      have p2 : 0 ≤ (4 * (k : Int) + 2) := by omega
      have p3 : 0 ≤ (4 * (k : Int) + 3) := by omega
      have k64 : (k : Int) < 64 := by omega
      have kk := k0 k
      go_still_tail 35, (by kernel_rfl)
      change wpList _ _ _ _ _ wr.drew
      clear q0 q1 q2 q3 t0 t1 t2 t3 l0 l1 l2 l3 p0 p1 p2 p3
      go_wp2
      go_roundw
      case rel => exact ⟨k + 1, _, by omega, by go_num, HL, by rw [E.out]; exact HIN.out.set_ k _⟩
      case measure => simp [intOf]; omega
    · obtain rfl : k = 16 := by omega
      have hW : Hid (ws = wrow (Sp.ext 0 (Sp.w16 b))) := hws
      clear hws
      go_wp2
      rw [cast16]
      go_loopw [7] (fun i wr => ∃ (j : Nat) (ws : Array Value), j ≤ 48 ∧ i = .int .i64 ((16 + j : Nat) : Int) ∧ Hid (ws = wrow (Sp.ext j (Sp.w16 b))) ∧ MixIn w wr cs ws) (fun i _ => 64 - (intOf i).toNat)
      case atStart => exact ⟨0, ws, by omega, rfl, hW, hin⟩
      case round =>
        clear hin hW
        obtain ⟨j, ws, hj, rfl, hws, hin⟩ := hrel
        obtain ⟨m, hm⟩ : ∃ m, m = 16 + j := ⟨_, rfl⟩
        rw [← hm]
        by_cases hlt : j < 48
        · have HIN := Lib.hid hin
          obtain ⟨_, _, _, hB2⟩ := hin
          have hl : (Sp.ext j (Sp.w16 b)).length = m := by rw [Sp.ext_length, Sp.w16_length, hm]
          have hall : Sp.allLt (Sp.ext j (Sp.w16 b)) := Sp.ext_lt _ _ (Sp.w16_lt hb.out)
          have g16 : wr.cell? ⟨w.heap.size + 1 + 1, m - 16, none⟩ = some (.int .u32 (((Sp.ext j (Sp.w16 b)).getD (m - 16) 0 : Nat) : Int)) := by rw [hB2.cell, hws.out]; exact wrow_get (by omega)
          have g15 : wr.cell? ⟨w.heap.size + 1 + 1, m - 15, none⟩ = some (.int .u32 (((Sp.ext j (Sp.w16 b)).getD (m - 15) 0 : Nat) : Int)) := by rw [hB2.cell, hws.out]; exact wrow_get (by omega)
          have g7 : wr.cell? ⟨w.heap.size + 1 + 1, m - 7, none⟩ = some (.int .u32 (((Sp.ext j (Sp.w16 b)).getD (m - 7) 0 : Nat) : Int)) := by rw [hB2.cell, hws.out]; exact wrow_get (by omega)
          have g2 : wr.cell? ⟨w.heap.size + 1 + 1, m - 2, none⟩ = some (.int .u32 (((Sp.ext j (Sp.w16 b)).getD (m - 2) 0 : Nat) : Int)) := by rw [hB2.cell, hws.out]; exact wrow_get (by omega)
          have cw : wr.cell? ⟨w.heap.size + 1 + 1, m, none⟩ = some (.int .u32 0) := by rw [hB2.cell, hws.out]; have := wrow_zero (l := Sp.ext j (Sp.w16 b)) (by omega); rw [hl] at this; exact this
          have fw := hB2.frozen m
          have x15 := getD_lt hall (m - 15)
          have x2 := getD_lt hall (m - 2)
          have E := Lib.hid (next_eq _ _ _ _ (getD_lt hall (m - 16)) x15 (getD_lt hall (m - 7)) x2)
          have HL : Hid (ws.setIfInBounds m (.int .u32 ((Sp.next (Sp.ext j (Sp.w16 b)) : Nat) : Int)) = wrow (Sp.ext (j + 1) (Sp.w16 b))) := by
            have := wrow_set (l := Sp.ext j (Sp.w16 b)) (by omega) (Sp.next (Sp.ext j (Sp.w16 b)))
            rw [hl] at this
            show _ = _
            rw [hws.out, this]; rfl
          have HX : Hid (((Sp.ext j (Sp.w16 b)).getD (m - 16) 0 + Sp.s0 ((Sp.ext j (Sp.w16 b)).getD (m - 15) 0) + (Sp.ext j (Sp.w16 b)).getD (m - 7) 0 + Sp.s1 ((Sp.ext j (Sp.w16 b)).getD (m - 2) 0)) % 4294967296 = Sp.next (Sp.ext j (Sp.w16 b))) := by
            show _ = _
            unfold Sp.next; rw [hl]
          generalize (Sp.ext j (Sp.w16 b)).getD (m - 16) 0 = y16 at *
          generalize (Sp.ext j (Sp.w16 b)).getD (m - 15) 0 = y15 at *
          generalize (Sp.ext j (Sp.w16 b)).getD (m - 7) 0 = y7 at *
          generalize (Sp.ext j (Sp.w16 b)).getD (m - 2) 0 = y2 at *
          clear hws hB2 hl hall
          have m1 : (16 : Int) ≤ (m : Int) := by omega
          have m2 : (m : Int) < 64 := by omega
          have HM := Lib.hid hm
          clear hm
          go_wp2
          have q15 : IntKind.i64.wrap ((m : Int) - 15) = (m : Int) - 15 := by rw [IntKind.wrap_i64]; omega
          have q2 : IntKind.i64.wrap ((m : Int) - 2) = (m : Int) - 2 := by rw [IntKind.wrap_i64]; omega
          have q16 : IntKind.i64.wrap ((m : Int) - 16) = (m : Int) - 16 := by rw [IntKind.wrap_i64]; omega
          have q7 : IntKind.i64.wrap ((m : Int) - 7) = (m : Int) - 7 := by rw [IntKind.wrap_i64]; omega
          have t15 : ((m : Int) - 15).toNat = m - 15 := by omega
          have t2 : ((m : Int) - 2).toNat = m - 2 := by omega
          have t16 : ((m : Int) - 16).toNat = m - 16 := by omega
          have t7 : ((m : Int) - 7).toNat = m - 7 := by omega
          have p15 : 0 ≤ (m : Int) - 15 := by omega
          have p2 : 0 ≤ (m : Int) - 2 := by omega
          have p16 : 0 ≤ (m : Int) - 16 := by omega
          have p7 : 0 ≤ (m : Int) - 7 := by omega
          have l15 : (m : Int) - 15 < 64 := by omega
          have l2 : (m : Int) - 2 < 64 := by omega
          have l16 : (m : Int) - 16 < 64 := by omega
          have l7 : (m : Int) - 7 < 64 := by omega
          go_quiet (fail)
          go_wp2
          generalize hw2 : wr.drewN _ = w2
          have HIN2 : Hid (MixIn w w2 cs ws) := Lib.hid (by rw [← hw2]; exact HIN.out.drewN _)
          replace g16 : w2.cell? ⟨w.heap.size + 1 + 1, m - 16, none⟩ = some (.int .u32 ((y16 : Nat) : Int)) := by rw [← hw2]; exact g16
          replace g7 : w2.cell? ⟨w.heap.size + 1 + 1, m - 7, none⟩ = some (.int .u32 ((y7 : Nat) : Int)) := by rw [← hw2]; exact g7
          replace cw : w2.cell? ⟨w.heap.size + 1 + 1, m, none⟩ = some (.int .u32 0) := by rw [← hw2]; exact cw
          replace fw : w2.frozen? ⟨w.heap.size + 1 + 1, m, none⟩ = false := by rw [← hw2]; exact fw
          clear g15 g2 HIN hw2
          have mm := k0 m
          have e7 : (7 : Int) ≤ (m : Int) := by omega
          go_still_tail 29, (by kernel_rfl)
          still_call (rot7_calls _ _ x15)
          repeat still_step
          still_call (rot18_calls _ _ x15)
          repeat still_step
          still_call (rot17_calls _ _ x2)
          repeat still_step
          still_call (rot19_calls _ _ x2)
          repeat still_step
          refine wpStill_nil ?_
          clear q15 q2 q16 q7 t15 t2 t16 t7 p15 p2 p16 p7 l15 l2 l16 l7
          change wpList _ _ _ _ _ w2.drew
          go_wp2
          go_roundw
          case rel => exact ⟨j + 1, _, by omega, by rw [← Nat.add_assoc, ← HM.out]; go_num, HL, by rw [E.out, HX.out]; exact HIN2.out.set_ m _⟩
          case measure => simp [intOf]; omega
        · obtain rfl : j = 48 := by omega
          obtain rfl : m = 64 := by omega
          have hWs := hws
          go_upto_region 12 with (fail)
          refine region12 rfl (by kernel_rfl) (by kernel_rfl) (by kernel_rfl) (by kernel_rfl) (by kernel_rfl) rfl rfl rfl rfl rfl rfl (by simp) rfl hin (by rw [hcs.out]; rfl) (by rw [hcs.out]; exact u32s_one _) ?_
          intro g10 g11 w1 hg10 hg11 hin1 hB10 hB11
          go_wp2
          go_loopw [100] (fun i wr => ∃ (k : Nat) (vs : Array Value) (s : Sp.St), k ≤ 64 ∧ i = .int .i64 k ∧ Hid (s = Sp.rounds (Sp.ext 48 (Sp.w16 b)) h k) ∧ Hid (vs = u32s s.list) ∧ s.ok ∧ RndIn w wr cs ws g10 g11 vs) (fun i _ => 64 - (intOf i).toNat)
          case atStart => exact ⟨0, cs, h, by omega, rfl, Lib.hid rfl, hcs, hok, ⟨hin1, hB10, hB11⟩⟩
          case round =>
            clear hin1 hB10 hB11 hin
            obtain ⟨k, vs, s, hk, rfl, hs, hvs, hso, hin1, hB10, hB11⟩ := hrel
            by_cases hlt : k < 64
            · obtain ⟨a, b', c', d, e, f, g, h8⟩ := s
              have c0 : wr.cell? ⟨g10, 0, none⟩ = some (.int .u32 (a : Int)) := by rw [hB10.cell, hvs.out]; rfl
              have c1 : wr.cell? ⟨g10, 1, none⟩ = some (.int .u32 (b' : Int)) := by rw [hB10.cell, hvs.out]; rfl
              have c2 : wr.cell? ⟨g10, 2, none⟩ = some (.int .u32 (c' : Int)) := by rw [hB10.cell, hvs.out]; rfl
              have c3 : wr.cell? ⟨g10, 3, none⟩ = some (.int .u32 (d : Int)) := by rw [hB10.cell, hvs.out]; rfl
              have c4 : wr.cell? ⟨g10, 4, none⟩ = some (.int .u32 (e : Int)) := by rw [hB10.cell, hvs.out]; rfl
              have c5 : wr.cell? ⟨g10, 5, none⟩ = some (.int .u32 (f : Int)) := by rw [hB10.cell, hvs.out]; rfl
              have c6 : wr.cell? ⟨g10, 6, none⟩ = some (.int .u32 (g : Int)) := by rw [hB10.cell, hvs.out]; rfl
              have c7 : wr.cell? ⟨g10, 7, none⟩ = some (.int .u32 (h8 : Int)) := by rw [hB10.cell, hvs.out]; rfl
              have ck : wr.cell? ⟨g11, k, none⟩ = some (.int .u32 ((Sp.K.getD k 0 : Nat) : Int)) := by rw [hB11.cell]; exact u32s_get (by show k < 64; omega)
              have cw : wr.cell? ⟨w.heap.size + 1 + 1, k, none⟩ = some (.int .u32 (((Sp.ext 48 (Sp.w16 b)).getD k 0 : Nat) : Int)) := by
                rw [hin1.2.2.2.cell, hWs.out]; exact wrow_get (by rw [Sp.ext_length, Sp.w16_length]; omega)
              generalize hKK : Sp.K.getD k 0 = kk at ck
              generalize hWW : (Sp.ext 48 (Sp.w16 b)).getD k 0 = ww at cw
              have xa : a < 4294967296 := hso.1
              have xb : b' < 4294967296 := hso.2.1
              have xc : c' < 4294967296 := hso.2.2.1
              have xe : e < 4294967296 := hso.2.2.2.2.1
              have xf : f < 4294967296 := hso.2.2.2.2.2.1
              have xg : g < 4294967296 := hso.2.2.2.2.2.2.1
              have HSO := Lib.hid hso
              clear hso
              have HKK := Lib.hid hKK
              have HWW := Lib.hid hWW
              clear hKK hWW
              have k64 : (k : Int) < 64 := by omega
              have kk0 := k0 k
              go_upto_region 16 with (fail)
              go_quiet (fail)
              go_upto_region 17 with (fail)
              go_quiet (first | (go_at_call 24; (first | with_reducible refine (rot6_calls _ _ xe).mono ?_ | with_reducible refine (rot11_calls _ _ xe).mono ?_ | with_reducible refine (rot25_calls _ _ xe).mono ?_); exact fun _ _ h => ⟨h.1, _, h.2⟩))
              go_upto_region 18 with (fail)
              go_quiet (first | (go_at_call 24; (first | with_reducible refine (rot2_calls _ _ xa).mono ?_ | with_reducible refine (rot13_calls _ _ xa).mono ?_ | with_reducible refine (rot22_calls _ _ xa).mono ?_); exact fun _ _ h => ⟨h.1, _, h.2⟩))
              go_upto_region 19 with (fail)
              rw [t_eq _ _ _ _ _ _ xe xf xg, u_eq _ _ _ xa xb xc]
              generalize hT : (h8 + Sp.S1 e + Sp.ch e f g + kk + ww) % 4294967296 = T
              generalize hU : (Sp.S0 a + Sp.maj a b' c') % 4294967296 = U
              have HT := Lib.hid hT
              have HU := Lib.hid hU
              clear hT hU
              generalize hw2 : World.drewN _ _ = w2
              have hin2 : RndIn w w2 cs ws g10 g11 vs := by rw [← hw2]; exact ⟨((hin1.drewN _).drewN _).drewN _, hB10, hB11⟩
              replace c0 : w2.cell? ⟨g10, 0, none⟩ = some (.int .u32 (a : Int)) := by rw [← hw2]; exact c0
              replace c1 : w2.cell? ⟨g10, 1, none⟩ = some (.int .u32 (b' : Int)) := by rw [← hw2]; exact c1
              replace c2 : w2.cell? ⟨g10, 2, none⟩ = some (.int .u32 (c' : Int)) := by rw [← hw2]; exact c2
              replace c3 : w2.cell? ⟨g10, 3, none⟩ = some (.int .u32 (d : Int)) := by rw [← hw2]; exact c3
              replace c4 : w2.cell? ⟨g10, 4, none⟩ = some (.int .u32 (e : Int)) := by rw [← hw2]; exact c4
              replace c5 : w2.cell? ⟨g10, 5, none⟩ = some (.int .u32 (f : Int)) := by rw [← hw2]; exact c5
              replace c6 : w2.cell? ⟨g10, 6, none⟩ = some (.int .u32 (g : Int)) := by rw [← hw2]; exact c6
              clear c7 ck cw hin1 hB10 hB11 hw2
              have hs8 : Hid (vs.size = 8) := Lib.hid (by rw [hvs.out]; rfl)
              go_wp2_with (first | (refine wpList_store_row rfl 33 (.tmp 10) (.tmp 180) rfl g10 _ rfl rfl 33 vs hin2.2.1 (by kernel_rfl) (by rw [hs8.out]; rfl) (by simp [Value.oneCell']) ?_))
              go_roundw
              case rel => exact ⟨k + 1, _, Sp.round ⟨a, b', c', d, e, f, g, h8⟩ kk ww, by omega, by go_num, Lib.hid (by rw [hs.out, ← HKK.out, ← HWW.out]; rfl), Lib.hid (by rw [show ((T : Int) + (U : Int)) % 4294967296 = (((T + U) % 4294967296 : Nat) : Int) from by omega, show ((d : Int) + (T : Int)) % 4294967296 = (((d + T) % 4294967296 : Nat) : Int) from by omega, ← HT.out, ← HU.out]; rfl), Sp.round_ok HSO.out _ _, hin2.1.row hg10 _, hin2.2.1.row _, hin2.2.2.row_far (blk_ne hin2.2.1 hin2.2.2 (by decide)) _⟩
              case measure => simp [intOf]; omega
            · obtain rfl : k = 64 := by omega
              have hx4 := Lib.hid (x4_start hin1 hB10 hcs hvs hg10)
              clear hin1 hB10 hB11
              go_wp2
              rw [cast64]
              go_loopw [182] (fun i wr => ∃ j : Nat, j ≤ 8 ∧ i = .int .i64 j ∧ Hid (X4 w wr g10 h s j)) (fun i _ => 8 - (intOf i).toNat)
              case atStart => exact ⟨0, by omega, rfl, hx4⟩
              case round =>
                clear hx4
                obtain ⟨j, hj, rfl, hx⟩ := hrel
                by_cases hlt : j < 8
                · have hx' := hx.out
                  obtain ⟨_, hB0, _, _, hB10⟩ := hx'
                  have q0 : wr.cell? ⟨w.heap.size, j, none⟩ = some (.int .u32 ((h.list.getD j 0 : Nat) : Int)) := by rw [hB0.cell, u32s_get (by rw [pl_length]; exact hlt), pl_at hlt]
                  have q1 : wr.cell? ⟨g10, j, none⟩ = some (.int .u32 ((s.list.getD j 0 : Nat) : Int)) := by rw [hB10.cell]; exact u32s_get hlt
                  have f0 := hB0.frozen j
                  have E : Hid ((((h.list.getD j 0 : Nat) : Int) + ((s.list.getD j 0 : Nat) : Int)) % 4294967296 = (((h.list.getD j 0 + s.list.getD j 0) % 4294967296 : Nat) : Int)) := Lib.hid (by omega)
                  generalize hya : h.list.getD j 0 = ya at *
                  generalize hyb : s.list.getD j 0 = yb at *
                  have HYA := Lib.hid hya
                  have HYB := Lib.hid hyb
                  clear hya hyb hB0 hB10
                  have j8 : (j : Int) < 8 := by omega
                  have jj := k0 j
                  go_upto_region 24 with (fail)
                  go_still_tail 8, (by kernel_rfl)
                  change wpList _ _ _ _ _ wr.drew
                  go_wp2
                  go_roundw
                  case rel => exact ⟨j + 1, by omega, by go_num, Lib.hid (by rw [E.out, ← HYA.out, ← HYB.out]; exact hx.out.step)⟩
                  case measure => simp [intOf]; omega
                · obtain rfl : j = 8 := by omega
                  obtain ⟨hbl, hB0, ⟨z, hz, hB1⟩, _, hB10⟩ := hx.out
                  rw [pl_done] at hB0
                  have hr8 : Hid ((u32s (Sp.plus h s).list).size = 8) := Lib.hid rfl
                  have hr1 : Hid ((u32s (Sp.plus h s).list).all (·.oneCell') = true) := Lib.hid (u32s_one _)
                  have hpost : Hid (u32s (Sp.plus h s).list = u32s (Sp.mixW h (Sp.w16 b)).list) := Lib.hid (by rw [hs.out]; rfl)
                  generalize u32s (Sp.plus h s).list = r at hB0 hr8 hr1 hpost
                  go_wp2_with (first | (refine wpList_load_row rfl 33 (.tmp 2) rfl w.heap.size rfl 33 r (0, 0) _ hB0 Try.underlying33 rfl (by rw [hr8.out]; kernel_rfl) ?_) | (refine wpList_store_row rfl 33 (.tmp 4) (.tmp 194) rfl (w.heap.size + 1) r rfl rfl 33 z hB1 (by rw [hr8.out]; kernel_rfl) (by rw [hz.out, hr8.out]) hr1.out ?_))
                  exact bodyPost_ret (results_cell_row Try.results23 _ _ (w.heap.size + 1) 33 r (0, 0) _ rfl (hB1.row r) Try.underlying33 rfl (by rw [hr8.out]; kernel_rfl)) rfl ⟨by rw [← hpost.out], below_setRow hbl (by omega) _⟩
end Go.Proofs.Ytblgldllfllcpaa
