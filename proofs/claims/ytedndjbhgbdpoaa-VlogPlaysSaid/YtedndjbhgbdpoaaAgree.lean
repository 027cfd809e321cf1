/- The contract of agree: the votes for a number's proposal, by who sent them. -/
import Derived.Test.YtedndjbhgbdpoaaVlA
namespace Go.Proofs.Ytedndjbhgbdpoaa
open Go.RowKit
theorem text_apart {a b : ByteArray} (h : ¬ a = b) : ¬ a.toList = b.toList := fun e => h (by
  have e2 : a.data.toList = b.data.toList := by simpa [ByteArray.toList_eq] using e
  obtain ⟨x⟩ := a
  obtain ⟨y⟩ := b
  simp only at e2
  rw [Array.toList_inj.1 e2])
theorem text_ne {a b : ByteArray} (h : ¬ a = b) : (a.toList == b.toList) = false := by simpa using text_apart h
theorem text_differ {a b : ByteArray} (h : ¬ a = b) : (a == b) = false := by
  cases e : (a == b) with
  | false => rfl
  | true => exact absurd ((MapKept.bytes_beq a b).1 e) h
def Vt.zero : Vt := ⟨⟨0, noText, noText⟩, noText⟩
theorem zero_vote (w : World) : (zeroValue 91).run Try.prog w = .ok Vt.zero.val w := by kernel_rfl
theorem AtV.look {w : World} {g gm : Nat} {gv : Nat → Nat → Option Nat} {kv : Nat → Value} {l : Vl} (h : AtV w g gm gv kv l) {k j : Nat} (hk : k < 8) (hj : j < 2) (i : Int) (hi : (Lit.int .i64 i).wf = true) :
    (Instr.lookup 74 (.map (gv k j)) (.int .i64 i) true).run Try.prog w = .ok (.tuple #[(((l.slots k).votes j i).getD Vt.zero).val, .bool ((l.slots k).votes j i).isSome]) w := by
  have hm := h.maps k j hk hj
  cases hgv : gv k j with
  | none =>
    rw [hgv] at hm
    have h0 : (l.slots k).votes j i = none := by
      have := hm i
      unfold votesOf at this
      cases hv : (l.slots k).votes j i with
      | none => rfl
      | some v => rw [hv] at this; cases this
    rw [h0]
    exact nil_miss Try.underlying3 Try.underlying74 true (zero_vote w) hi
  | some b =>
    rw [hgv] at hm
    have hm' : MapAt Try.prog 3 w b (votesOf (l.slots k) j) := hm
    cases hv : (l.slots k).votes j i with
    | none => exact hm'.miss Try.underlying3 Try.underlying74 true (zero_vote w) hi (by unfold votesOf; rw [hv]; rfl)
    | some v => exact hm'.hit Try.underlying3 Try.underlying74 true ⟨_, zero_vote w⟩ hi (by unfold votesOf; rw [hv]; rfl)
theorem agree_snoc (s : Slot) (j i : Nat) : s.agree j (i + 1) = s.agree j i ++ (match s.agreeing j (i : Int) with | some x => [x] | none => []) := by
  unfold Slot.agree
  rw [List.range_succ, List.filterMap_append]
  cases h : s.agreeing j (i : Int) <;> simp [h]
theorem agree_le (s : Slot) (j i : Nat) : (s.agree j i).length ≤ i := by
  unfold Slot.agree
  have := List.length_filterMap_le (fun (i : Nat) => s.agreeing j (i : Int)) (List.range i)
  rwa [List.length_range] at this
theorem info_sg : (Try.prog.info? 48).map (fun i => (i.zero, i.size, i.bytes)) = some (some (.agg #[.int .i64 0, .string noText, .string noText]), 3, 40) := by kernel_rfl
set_option maxHeartbeats 4000000 in
theorem agree_calls {w : World} {g gm : Nat} {gv : Nat → Nat → Option Nat} {kv : Nat → Value} {l : Vl} (h : AtV w g gm gv kv l) (seq : Int) (h0 : 0 ≤ seq) (j : Nat) (hj : j < 2) (kd : Int) (hkd : kd = 3 + (j : Int)) :
    Calls Try.prog 41 #[.pointer (some ⟨g, 0, none⟩), .int .i64 seq, .int .i64 kd] w fun e w' => ∃ A c, e = .returned (.slice A (l.agree seq j).length c) ∧ Mine w w' 3 (.slice A (l.agree seq j).length c) (l.agree seq j).length (scells (l.agree seq j)) ∧ Below w.heap.size w w' := by
  have H := Lib.hid h
  obtain ⟨c0, -, -, -⟩ := h.head
  have hn := h.ok.n
  obtain ⟨n, hnn⟩ : ∃ n : Nat, l.n = (n : Int) := ⟨l.n.toNat, by omega⟩
  have hN : Hid (l.n.toNat = n) := Lib.hid (by omega)
  rw [hnn] at c0 hn
  have hn13 : n ≤ 13 := by omega
  have HA := Lib.hid (fun w => at_calls w g seq h0)
  have hk8 := ix_lt seq
  have hL : Hid (l.agree seq j = (l.slots (ix seq)).agree j n) := Lib.hid (by unfold Vl.agree; rw [hN.out]; rfl)
  rw [hL.out]
  obtain ⟨k, hk⟩ : ∃ k, ix seq = k := ⟨_, rfl⟩
  rw [hk] at HA hk8 ⊢
  have hj0 : (0 : Int) ≤ (j : Int) := by omega
  have hj1 : (j : Int) < 2 := by omega
  have hsub : kd - 3 = (j : Int) := by omega
  have hkd0 : 3 ≤ kd := by omega
  have hkd1 : kd ≤ 4 := by omega
  clear h hnn hk hL hkd
  obtain ⟨i1, hi1, hy0, hy1, hy2⟩ := info_parts info_sg
  have HI1 := Lib.hid hi1
  have HY0 := Lib.hid hy0
  have HY1 := Lib.hid hy1
  have HY2 := Lib.hid hy2
  clear hi1 hy0 hy1 hy2
  obtain ⟨s, hs⟩ : ∃ s, Hid (l.slots k = s) := ⟨_, Lib.hid rfl⟩
  have hcells : Hid (∀ wr, Below w.heap.size w wr → wr.cell? ⟨g, 3 + k * 13 + 3 + j, none⟩ = some (.map (gv k j)) ∧ wr.cell? ⟨g, 3 + k * 13, none⟩ = some (.bool s.has) ∧ wr.cell? ⟨g, 3 + k * 13 + 1, none⟩ = some (.string s.digest)) := Lib.hid fun wr hb => by
    have hA := H.out.below hb
    rw [← hs.out]
    refine ⟨?_, hA.field (k := k) (j := 0) (by omega) (by omega), hA.field (k := k) (j := 1) (by omega) (by omega)⟩
    have := hA.field (k := k) (j := 3 + j) (by omega) (by omega)
    rw [← Nat.add_assoc] at this
    rw [this]
    rcases (show j = 0 ∨ j = 1 by omega) with rfl | rfl <;> rfl
  have hlook : Hid (∀ (i : Nat) wr, i < 13 → Below w.heap.size w wr → (Instr.lookup 74 (.map (gv k j)) (.int .i64 (i : Int)) true).run Try.prog wr = .ok (.tuple #[((s.votes j (i : Int)).getD Vt.zero).val, .bool (s.votes j (i : Int)).isSome]) wr) := Lib.hid fun i wr hi hb => by
    have := (H.out.below hb).look (k := k) (by omega) hj (i : Int) (wf64 (by omega))
    rw [hs.out] at this
    exact this
  rw [hs.out]
  generalize gv k j = mo at hcells hlook
  clear hn
  go_enter Try.func41, Try.ntmps41
  go_wp2_with (first
    | (go_at_call 35; (with_reducible refine (HA.out _).mono ?_); rintro e w1 ⟨rfl, rfl⟩))
  clear c0
  go_loopg [8, 21] (n + 1) (fun gk s8 s21 wr => ∃ i A c, gk = n + 1 - i ∧ i ≤ n ∧ s21 = .int .i64 (i : Int) ∧ s8 = .slice A (s.agree j i).length c ∧ Hid (Mine w wr 3 (.slice A (s.agree j i).length c) (s.agree j i).length (scells (s.agree j i))) ∧ Hid (Below w.heap.size w wr))
  case atStart => exact ⟨0, none, 0, rfl, Nat.zero_le _, rfl, rfl, Lib.hid (Mine.empty _ _ _ _), Lib.hid (Below.refl _ _)⟩
  case round =>
    obtain ⟨i, A, c, rfl, hi, rfl, rfl, hm, hb⟩ := hrel
    have i0 : (0 : Int) ≤ (i : Int) := by omega
    by_cases hlt : i < n
    · have hltI : (i : Int) < (n : Int) := by omega
      have hsn := Lib.hid (agree_snoc s j i)
      have hle := agree_le s j i
      obtain ⟨m, hmm⟩ : ∃ m, Hid ((s.agree j i).length = m) := ⟨_, Lib.hid rfl⟩
      rw [hmm.out] at hm hle ⊢
      obtain ⟨c1, c2, c3⟩ := hcells.out wr hb.out
      have hlk := hlook.out i wr (by omega) hb.out
      have hag : Hid (s.agreeing j (i : Int) = match s.votes j (i : Int) with | some v => if s.has = true ∧ v.d = s.digest then some v.m else none | none => none) := Lib.hid rfl
      generalize s.votes j (i : Int) = ov at hlk hag
      have hm20 : m ≤ 13 := by omega
      have hex : ∃ (v : Vt) (ok : Bool), (Instr.lookup 74 (.map mo) (.int .i64 (i : Int)) true).run Try.prog wr = .ok (.tuple #[v.val, .bool ok]) wr ∧ s.agreeing j (i : Int) = if ok = true ∧ s.has = true ∧ v.d = s.digest then some v.m else none := by
        rw [hag.out]
        cases ov with
        | none => exact ⟨Vt.zero, false, hlk, by simp⟩
        | some v => exact ⟨v, true, hlk, by simp⟩
      clear hlk hag
      obtain ⟨⟨⟨fr, bo, si⟩, d⟩, ok, hlk, hag⟩ := hex
      have hag := Lib.hid hag
      simp only [Vt.val] at hlk
      go_upto_region 7 with (fail)
      have hm2 := Lib.hid (hm.out.alloc (.cells #[.int .i64 fr, .string bo, .string si, .string d] 91))
      have hb2 := Lib.hid (hb.out.alloc hb.out.size (.cells #[.int .i64 fr, .string bo, .string si, .string d] 91))
      have B2 : Hid (Blk (wr.alloc (.cells #[.int .i64 fr, .string bo, .string si, .string d] 91)) wr.heap.size 91 #[.int .i64 fr, .string bo, .string si, .string d]) := Lib.hid (Blk.new _ _ _)
      clear c1 c2 c3 hlk hm hb
      generalize wr.heap.size = gb at B2 ⊢
      generalize World.alloc wr _ = wy at hm2 hb2 B2 ⊢
      have q0 : wy.cell? ⟨gb, 0, none⟩ = some (.int .i64 fr) := B2.out.cell 0
      have q1 : wy.cell? ⟨gb, 1, none⟩ = some (.string bo) := B2.out.cell 1
      have q2 : wy.cell? ⟨gb, 2, none⟩ = some (.string si) := B2.out.cell 2
      have q3 : wy.cell? ⟨gb, 3, none⟩ = some (.string d) := B2.out.cell 3
      obtain ⟨c1, c2, c3⟩ := hcells.out wy hb2.out
      have hend : s.agreeing j (i : Int) = none → (s.agree j (i + 1) = s.agree j i) := fun h => by rw [hsn.out, h]; simp
      by_cases hyes : ok = true ∧ s.has = true ∧ d = s.digest
      · obtain ⟨rfl, hh, rfl⟩ := hyes
        have hsn2 : Hid (s.agree j (i + 1) = s.agree j i ++ [⟨fr, bo, si⟩]) := Lib.hid (by rw [hsn.out, hag.out]; simp [hh])
        rw [hh] at c2
        clear hend hh hsn hag
        go_quiet (fail)
        generalize hwz : World.drewN _ _ = wz
        have hm3 : Hid (Mine w wz 3 (.slice A m c) m (scells (s.agree j i))) := Lib.hid (by rw [← hwz]; exact hm2.out.drewN _)
        have hb3 : Hid (Below w.heap.size w wz) := Lib.hid (by rw [← hwz]; exact below_draw hb2.out _)
        have r0 : wz.cell? ⟨gb, 0, none⟩ = some (.int .i64 fr) := by rw [← hwz]; exact q0
        have r1 : wz.cell? ⟨gb, 1, none⟩ = some (.string bo) := by rw [← hwz]; exact q1
        have r2 : wz.cell? ⟨gb, 2, none⟩ = some (.string si) := by rw [← hwz]; exact q2
        clear hwz q0 q1 q2 q3 c1 c2 c3 hm2 hb2 B2
        go_wp2_with (first
          | (refine wpList_append_mine rfl (.tmp 52) (.tmp 55) 44 44 rfl 48 i1 (.agg #[.int .i64 0, .string noText, .string noText]) 40 Try.underlying44 HI1.out HY0.out HY1.out HY2.out rfl (by decide) rfl (hm3.out.alloc _) (hb3.out.alloc hb3.out.size _) _ 1 [.int .i64 fr, .string bo, .string si] rfl (src_new Try.underlying44 _ _ _ 1 1 rfl (by simp [Value.oneCell'])) (by unfold maxLen; omega) (by omega) ?_; intro A2 c2 w2 hm4 hb4))
        go_roundg (n + 1 - (i + 1))
        case measure => omega
        case rel =>
          have hlen : (s.agree j (i + 1)).length = m + 1 := by rw [hsn2.out, List.length_append, hmm.out]; rfl
          refine ⟨i + 1, A2, c2, rfl, by omega, by go_num, by rw [hlen], Lib.hid ?_, Lib.hid hb4⟩
          rw [hlen, hsn2.out, scells_append]
          exact hm4
      · have hsn2 := Lib.hid (hend (by rw [hag.out, if_neg hyes]))
        clear hend hsn hag
        have hfin : ∀ nd, Hid (Mine w (wy.drewN nd) 3 (.slice A m c) m (scells (s.agree j i))) ∧ Hid (Below w.heap.size w (wy.drewN nd)) := fun nd => ⟨Lib.hid (hm2.out.drewN _), Lib.hid (below_draw hb2.out _)⟩
        have HF := Lib.hid hfin
        clear hfin
        by_cases ho : ok = true
        · subst ho
          by_cases hh : s.has = true
          · have hd : ¬ d = s.digest := fun e => hyes ⟨rfl, hh, e⟩
            have hd2 := text_ne hd
            have hd3 := text_apart hd
            have hd4 := text_differ hd
            rw [hh] at c2
            clear hyes hh
            go_quiet (fail)
            go_wp2
            go_roundg (n + 1 - (i + 1))
            case measure => omega
            case rel => exact ⟨i + 1, A, c, rfl, by omega, by go_num, by rw [hsn2.out, hmm.out], by rw [hsn2.out, hmm.out]; exact (HF.out _).1, (HF.out _).2⟩
          · have hh2 : s.has = false := by simpa using hh
            rw [hh2] at c2
            clear hyes hh hh2
            go_quiet (fail)
            go_wp2
            go_roundg (n + 1 - (i + 1))
            case measure => omega
            case rel => exact ⟨i + 1, A, c, rfl, by omega, by go_num, by rw [hsn2.out, hmm.out], by rw [hsn2.out, hmm.out]; exact (HF.out _).1, (HF.out _).2⟩
        · have ho2 : ok = false := by simpa using ho
          subst ho2
          clear hyes ho
          go_quiet (fail)
          go_wp2
          go_roundg (n + 1 - (i + 1))
          case measure => omega
          case rel => exact ⟨i + 1, A, c, rfl, by omega, by go_num, by rw [hsn2.out, hmm.out], by rw [hsn2.out, hmm.out]; exact (HF.out _).1, (HF.out _).2⟩
    · obtain rfl : i = n := by omega
      go_wp2
      go_ret
      exact ⟨A, c, rfl, hm.out, hb.out⟩
end Go.Proofs.Ytedndjbhgbdpoaa
