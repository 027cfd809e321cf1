/- The reference's Sorted, Numbers and Median. -/
import Derived.Test.YtgppjajkhdhcaaaSrt
import Derived.Test.YtgppjajkhdhcaaaOwnK
import Derived.BigQuiet
import Derived.Lib.Hide
import Derived.Outline
import Derived.Deep.QuietTactic
import Derived.StillTailTactics
import Derived.Deep.Cut
import Derived.Deep.LoopGhost
import Derived.Deep.RegionHeld3
namespace Go.Proofs.Ytgppjajkhdhcaaa
open Go.RowKit
def FRow (w : World) (A : Option Addr) (L : List Nat) : Prop := Row w A L.length fun j => .float .f64 (L.getD j 0)
def fcells (L : List Nat) : List Value := L.map (Value.float .f64)
theorem fcells_get (l : List Nat) {i : Nat} (h : i < l.length) : (fcells l)[i]? = some (.float .f64 (l.getD i 0)) := by
  simp [fcells, List.getD_eq_getElem?_getD, List.getElem?_eq_getElem h]
theorem fcells_append (a b : List Nat) : fcells (a ++ b) = fcells a ++ fcells b := by simp [fcells]
theorem fcells_set (l : List Nat) (i x : Nat) : (fcells l).set i (.float .f64 x) = fcells (l.set i x) := by simp [fcells, List.map_set]
theorem fcells_one (l : List Nat) : ∀ u ∈ fcells l, u.oneCell' = true := fun u hu => by
  obtain ⟨x, _, rfl⟩ := List.mem_map.1 hu; rfl
section
variable {w w' w0 : World} {A : Option Addr} {L : List Nat}
theorem FRow.cell {b o : Nat} (h : FRow w (some ⟨b, o, none⟩) L) {i : Nat} (hi : i < L.length) : w.cell? ⟨b, o + i, none⟩ = some (.float .f64 (L.getD i 0)) := by
  obtain ⟨b', o', e, h1, h2⟩ := Row.at_ h hi
  cases e; exact h2
theorem FRow.some (h : FRow w A L) {i : Nat} (hi : i < L.length) : ∃ b o, A = some ⟨b, o, none⟩ := by
  obtain ⟨b, o, e, _⟩ := Row.at_ h hi
  exact ⟨b, o, e⟩
theorem FRow.drewN (h : FRow w A L) (k : Nat) : FRow (w.drewN k) A L := h
theorem FRow.below (h : FRow w A L) (hb : Below w.heap.size w w') : FRow w' A L := Row.below h hb
theorem FRow.take (h : FRow w A L) (n : Nat) : FRow w A (L.take n) := by
  unfold FRow
  rcases h with h | ⟨b, o, h1, h2, h3⟩
  · exact .inl (by rw [List.length_take, h, Nat.min_zero])
  · refine .inr ⟨b, o, h1, h2, fun j hj => ?_⟩
    rw [List.length_take] at hj
    rw [h3 j (by omega)]
    simp only [List.getD_eq_getElem?_getD]
    rw [List.getElem?_take_of_lt (by omega)]
theorem Mine.frow {c n : Nat} (h : Mine w0 w 1 (.slice A n c) n (fcells L)) : FRow w A L := by
  have hl := h.len
  simp only [fcells, List.length_map, Nat.mul_one] at hl
  obtain ⟨A', c', e, h1, h2, h3⟩ := h.row
  cases e
  unfold FRow
  rw [Nat.mul_one, ← hl] at h3
  refine h3.of_eq fun j hj => ?_
  rw [List.getD_eq_getElem?_getD, fcells_get L hj]; rfl
theorem Mine.base {w1 : World} {v : Value} {n : Nat} {xs : List Value} (h : Mine w1 w 1 v n xs) (hs : w0.heap.size ≤ w1.heap.size) : Mine w0 w 1 v n xs := by
  obtain ⟨b, h1, h2⟩ := h
  exact ⟨b, h1, fun g hg => Nat.le_trans hs (h2 g hg)⟩
end
theorem getD_mem {L : List Nat} {i : Nat} (h : i < L.length) : L.getD i 0 ∈ L := by
  rw [List.getD_eq_getElem?_getD, List.getElem?_eq_getElem h]; exact List.getElem_mem _
theorem take_snoc {L : List Nat} {i : Nat} (h : i < L.length) : L.take (i + 1) = L.take i ++ [L.getD i 0] := by
  rw [List.take_add_one, List.getD_eq_getElem?_getD, List.getElem?_eq_getElem h]; rfl
theorem info_float : (Try.prog.info? 25).map (fun i => (i.zero, i.size, i.bytes)) = some (some (.float .f64 0), 1, 8) := by kernel_rfl
set_option maxHeartbeats 4000000 in
theorem refsorted_calls (w : World) (A : Option Addr) (c n : Nat) (L : List Nat) (hn : L.length = n) (hm : n ≤ 300) (hb : ∀ x ∈ L, x < 18446744073709551616) (hA : FRow w A L) :
    Calls Try.prog 7 #[.slice A n c] w fun e w' => ∃ B d, e = .returned (.slice B n d) ∧ Mine w w' 1 (.slice B n d) n (fcells (Fl.srt L)) ∧ Below w.heap.size w w' := by
  have HA := Lib.hid hA
  have HN := Lib.hid hn
  have HB := Lib.hid hb
  clear hA hn hb
  obtain ⟨i1, hi1, hy0, hy1, hy2⟩ := info_parts info_float
  have HI1 := Lib.hid hi1
  have HY0 := Lib.hid hy0
  have HY1 := Lib.hid hy1
  have HY2 := Lib.hid hy2
  clear hi1 hy0 hy1 hy2
  go_enter Try.func7, Try.ntmps7
  go_wp2
  go_loopg [3, 4] (n + 1) (fun gk s3 s4 wr => ∃ i B d, gk = n + 1 - i ∧ i ≤ n ∧ s4 = .int .i64 (i : Int) ∧ s3 = .slice B i d ∧ Hid (Mine w wr 1 (.slice B i d) i (fcells (Fl.srt (L.take i)))) ∧ Hid (Below w.heap.size w wr))
  case atStart => exact ⟨0, none, 0, rfl, Nat.zero_le _, rfl, rfl, Lib.hid (Mine.empty _ _ _ _), Lib.hid (Below.refl _ _)⟩
  case round =>
    obtain ⟨i, B, d, rfl, hi, rfl, rfl, hmn, hbl⟩ := hrel
    have i0 : (0 : Int) ≤ (i : Int) := by omega
    by_cases hlt : i < n
    · have hltI : (i : Int) < (n : Int) := by omega
      have hl : i < L.length := by rw [HN.out]; exact hlt
      obtain ⟨ba, oa, rfl⟩ := HA.out.some hl
      have c1 : wr.cell? ⟨ba, oa + i, none⟩ = some (.float .f64 (L.getD i 0)) := by
        obtain ⟨b', o', e, h1, h2⟩ := Row.at_ HA.out hl
        cases e; exact (below_cell hbl.out h1).trans h2
      have hsn : Hid (Fl.srt (L.take (i + 1)) = Fl.ins (Fl.on (L.getD i 0)) (Fl.srt (L.take i))) := Lib.hid (by rw [take_snoc hl, Fl.srt_snoc])
      have hyl : L.getD i 0 < 18446744073709551616 := HB.out _ (getD_mem hl)
      have hol := Fl.on_lt hyl
      have hsl : ∀ x ∈ Fl.srt (L.take i), x < 18446744073709551616 := fun x hx => (Fl.srt_cn (fun y hy => HB.out y (List.mem_of_mem_take hy)) x hx).1
      have hSl : (Fl.srt (L.take i)).length = i := by rw [Fl.srt_length, List.length_take]; omega
      obtain ⟨x, hx⟩ : ∃ x, Hid (Fl.on (L.getD i 0) = x) := ⟨_, Lib.hid rfl⟩
      rw [hx.out] at hsn hol
      obtain ⟨S, hS⟩ : ∃ S, Fl.srt (L.take i) = S := ⟨_, rfl⟩
      rw [hS] at hsn hsl hSl hmn
      have HXL := Lib.hid hol
      have HSL := Lib.hid hsl
      have HSS := Lib.hid hSl
      generalize L.getD i 0 = y at c1 hx
      clear hyl hol hsl hSl hS hl
      go_upto_region 6 with (first | (go_at_call 18; (with_reducible refine (refOne_calls _ _ _ hx).mono ?_); rintro e w1 ⟨rfl, rfl⟩))
      clear c1
      obtain ⟨w1, hw1⟩ : ∃ w1, Hid (w1 = wr) := ⟨_, Lib.hid rfl⟩
      have hbw : Hid (Below w1.heap.size w1 wr) := Lib.hid (by rw [hw1.out]; exact Below.refl _ _)
      have hFr : Hid (FRow w1 B S) := Lib.hid (by rw [hw1.out]; exact hmn.out.frow)
      have hle : Hid (w.heap.size ≤ w1.heap.size) := Lib.hid (by rw [hw1.out]; exact hbl.out.size)
      have hbl1 : Hid (Below w.heap.size w w1) := Lib.hid (by rw [hw1.out]; exact hbl.out)
      clear hmn hbl hw1
      go_wp2
      go_loopg [6, 7, 8] (i + 1) (fun gk s6 s7 s8 wr => ∃ k C e, gk = i + 1 - k ∧ k ≤ i ∧ s8 = .int .i64 (k : Int) ∧ s7 = .bool (Fl.layn x (S.take k)).1 ∧ s6 = .slice C (k + (if (Fl.layn x (S.take k)).1 then 1 else 0)) e ∧ Hid (Mine w1 wr 1 (.slice C (k + (if (Fl.layn x (S.take k)).1 then 1 else 0)) e) (k + (if (Fl.layn x (S.take k)).1 then 1 else 0)) (fcells (Fl.layn x (S.take k)).2)) ∧ Hid (Below w1.heap.size w1 wr))
      case atStart => exact ⟨0, none, 0, rfl, Nat.zero_le _, rfl, rfl, rfl, Lib.hid (Mine.empty _ _ _ _), hbw⟩
      case round =>
        clear hbw
        obtain ⟨k, C, e, rfl, hk, rfl, rfl, rfl, hmn, hbl⟩ := hrel
        have k0 : (0 : Int) ≤ (k : Int) := by omega
        by_cases hlt2 : k < i
        · have hltI2 : (k : Int) < (i : Int) := by omega
          have hl : k < S.length := by rw [HSS.out]; exact hlt2
          obtain ⟨bb, ob, rfl⟩ := hFr.out.some hl
          have c2 : wr.cell? ⟨bb, ob + k, none⟩ = some (.float .f64 (S.getD k 0)) := by
            obtain ⟨b', o', e, h1, h2⟩ := Row.at_ hFr.out hl
            cases e; exact (below_cell hbl.out h1).trans h2
          have hc2 : Hid (∀ w', Below w1.heap.size w1 w' → w'.cell? ⟨bb, ob + k, none⟩ = some (.float .f64 (S.getD k 0))) := Lib.hid fun w' hb' => by
            obtain ⟨b', o', e, h1, h2⟩ := Row.at_ hFr.out hl
            cases e; exact (below_cell hb' h1).trans h2
          have hln : Hid (Fl.layn x (S.take (k + 1)) = Fl.lay1 x (Fl.layn x (S.take k)) (S.getD k 0)) := Lib.hid (by rw [take_snoc hl, Fl.layn_snoc])
          have hyl : S.getD k 0 < 18446744073709551616 := HSL.out _ (getD_mem hl)
          have HB2 := Lib.hid (fun w (v : Bool) (h : Hid (Fl.bl x (S.getD k 0) = v)) => below_calls x (S.getD k 0) w v HXL.out hyl h)
          generalize S.getD k 0 = z at c2 hc2 hln HB2
          clear hyl hl
          obtain ⟨p, hp⟩ : ∃ p, Fl.layn x (S.take k) = p := ⟨_, rfl⟩
          rw [hp] at hmn hln ⊢
          clear hp
          obtain ⟨done, acc⟩ := p
          simp only at hmn hln ⊢
          cases done with
          | true =>
            have hl1 : Hid (Fl.layn x (S.take (k + 1)) = (true, acc ++ [z])) := Lib.hid (by rw [hln.out]; rfl)
            clear hln HB2
            simp only [if_true] at hmn ⊢
            go_wp2_with (first
              | (refine wpList_append_mine rfl (.tmp 40) (.tmp 45) 22 22 rfl 25 i1 (.float .f64 0) 8 Try.underlying22 HI1.out HY0.out HY1.out HY2.out rfl (by decide) rfl (hmn.out.alloc _) (hbl.out.alloc hbl.out.size _) _ 1 [.float .f64 z] rfl (src_new Try.underlying22 _ _ _ 1 1 rfl (by simp [Value.oneCell'])) (by unfold maxLen; omega) (by omega) ?_; intro A3 c3 w3 hm3 hb3))
            go_roundg (i + 1 - (k + 1))
            case measure => omega
            case rel =>
              refine ⟨k + 1, A3, c3, rfl, by omega, by go_num, by rw [hl1.out], by rw [hl1.out]; rfl, Lib.hid ?_, Lib.hid hb3⟩
              rw [hl1.out, fcells_append]
              exact hm3
          | false =>
            by_cases hz : Fl.rk x < Fl.rk z
            · have hl1 : Hid (Fl.layn x (S.take (k + 1)) = (true, acc ++ [x] ++ [z])) := Lib.hid (by rw [hln.out]; unfold Fl.lay1; simp [hz])
              have hblv : Hid (Fl.bl x z = true) := Lib.hid (decide_eq_true hz)
              clear hln hz
              simp only [Bool.false_eq_true, if_false, Nat.add_zero] at hmn ⊢
              go_upto_region 13 with (first
                | (go_at_call 19; (with_reducible refine (HB2.out _ _ hblv).mono ?_); rintro e w2 ⟨rfl, rfl⟩)
                | (refine wpList_append_mine rfl (.tmp 36) (.tmp 38) 22 22 rfl 25 i1 (.float .f64 0) 8 Try.underlying22 HI1.out HY0.out HY1.out HY2.out rfl (by decide) rfl (hmn.out.alloc _) (hbl.out.alloc hbl.out.size _) _ 1 [.float .f64 x] rfl (src_new Try.underlying22 _ _ _ 1 1 rfl (by simp [Value.oneCell'])) (by unfold maxLen; omega) (by omega) ?_; intro A3 c3 w3 hm3 hb3))
              have c5 := hc2.out _ hb3
              clear c2
              go_wp2_with (first
                | (refine wpList_append_mine rfl (.tmp 40) (.tmp 45) 22 22 rfl 25 i1 (.float .f64 0) 8 Try.underlying22 HI1.out HY0.out HY1.out HY2.out rfl (by decide) rfl (hm3.alloc _) (hb3.alloc hb3.size _) _ 1 [.float .f64 z] rfl (src_new Try.underlying22 _ _ _ 1 1 rfl (by simp [Value.oneCell'])) (by unfold maxLen; omega) (by omega) ?_; intro A4 c4 w4 hm4 hb4))
              go_roundg (i + 1 - (k + 1))
              case measure => omega
              case rel =>
                refine ⟨k + 1, A4, c4, rfl, by omega, by go_num, by rw [hl1.out], by rw [hl1.out]; rfl, Lib.hid ?_, Lib.hid hb4⟩
                rw [hl1.out, fcells_append, fcells_append]
                exact hm4
            · have hl1 : Hid (Fl.layn x (S.take (k + 1)) = (false, acc ++ [z])) := Lib.hid (by rw [hln.out]; unfold Fl.lay1; simp [hz])
              have hblv : Hid (Fl.bl x z = false) := Lib.hid (decide_eq_false hz)
              clear hln hz
              simp only [Bool.false_eq_true, if_false, Nat.add_zero] at hmn ⊢
              go_wp2_with (first
                | (go_at_call 19; (with_reducible refine (HB2.out _ _ hblv).mono ?_); rintro e w2 ⟨rfl, rfl⟩)
                | (refine wpList_append_mine rfl (.tmp 40) (.tmp 45) 22 22 rfl 25 i1 (.float .f64 0) 8 Try.underlying22 HI1.out HY0.out HY1.out HY2.out rfl (by decide) rfl (hmn.out.alloc _) (hbl.out.alloc hbl.out.size _) _ 1 [.float .f64 z] rfl (src_new Try.underlying22 _ _ _ 1 1 rfl (by simp [Value.oneCell'])) (by unfold maxLen; omega) (by omega) ?_; intro A3 c3 w3 hm3 hb3))
              go_roundg (i + 1 - (k + 1))
              case measure => omega
              case rel =>
                refine ⟨k + 1, A3, c3, rfl, by omega, by go_num, by rw [hl1.out], by rw [hl1.out]; rfl, Lib.hid ?_, Lib.hid hb3⟩
                rw [hl1.out, fcells_append]
                exact hm3
        · obtain rfl : k = i := by omega
          have hS : S.take k = S := List.take_of_length_le (by rw [HSS.out]; exact Nat.le_refl _)
          rw [hS] at hmn ⊢
          have hfin := Lib.hid (Fl.layn_ins x S)
          obtain ⟨p, hp⟩ : ∃ p, Fl.layn x S = p := ⟨_, rfl⟩
          rw [hp] at hmn hfin ⊢
          clear hp hS
          obtain ⟨done, acc⟩ := p
          simp only at hmn hfin ⊢
          cases done with
          | true =>
            simp only [if_true] at hmn hfin ⊢
            go_wp2
            go_roundg (n + 1 - (k + 1))
            case measure => omega
            case rel =>
              refine ⟨k + 1, C, e, rfl, by omega, by go_num, rfl, Lib.hid ?_, Lib.hid (hbl1.out.trans (hbl.out.mono hle.out))⟩
              rw [hsn.out, ← hfin.out]
              exact hmn.out.base hle.out
          | false =>
            simp only [Bool.false_eq_true, if_false, Nat.add_zero] at hmn hfin ⊢
            go_wp2_with (first
              | (refine wpList_append_mine rfl (.tmp 49) (.tmp 51) 22 22 rfl 25 i1 (.float .f64 0) 8 Try.underlying22 HI1.out HY0.out HY1.out HY2.out rfl (by decide) rfl (hmn.out.alloc _) (hbl.out.alloc hbl.out.size _) _ 1 [.float .f64 x] rfl (src_new Try.underlying22 _ _ _ 1 1 rfl (by simp [Value.oneCell'])) (by unfold maxLen; omega) (by omega) ?_; intro A3 c3 w3 hm3 hb3))
            go_roundg (n + 1 - (k + 1))
            case measure => omega
            case rel =>
              refine ⟨k + 1, A3, c3, rfl, by omega, by go_num, rfl, Lib.hid ?_, Lib.hid (hbl1.out.trans (hb3.mono hle.out))⟩
              rw [hsn.out, ← hfin.out, fcells_append]
              exact hm3.base hle.out
    · obtain rfl : i = n := by omega
      rw [List.take_of_length_le (by rw [HN.out]; exact Nat.le_refl _)] at hmn
      go_wp2
      go_ret
      exact ⟨B, d, rfl, hmn.out, hbl.out⟩
end Go.Proofs.Ytgppjajkhdhcaaa
