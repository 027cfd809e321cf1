/- The reference's New. -/
import Derived.Test.YtccmafmeblojpaaRfS
import Derived.Test.YtccmafmeblojpaaAw
namespace Go.Proofs.Ytccmafmeblojpaa
open Go.RowKit
set_option linter.unusedVariables false
set_option linter.unusedSimpArgs false
/-- May there be an auction of such a lot? -/
def goodLot (su st sp bd : Int) : Prop := 1 ≤ su ∧ su ≤ 1048576 ∧ 0 ≤ st ∧ st ≤ 1099511627776 ∧ 1 ≤ sp ∧ sp ≤ 1099511627776 ∧ 1 ≤ bd ∧ bd ≤ 16
theorem Beside.fresh {su st sp : Int} {n : Nat} (h : goodLot su st sp n) : Beside (Auc.fresh su st sp n) 1 := by
  obtain ⟨h1, h2, h3, h4, h5, h6, h7, h8⟩ := h
  refine ⟨⟨⟨h1, h2⟩, ⟨h3, h4⟩, ⟨h5, h6⟩, by show (1 : Int) ≤ 1; omega, ?_, .inl rfl, ?_, fun p hp => ?_⟩, Auc.Fair.fresh su st sp n, rfl, Nat.le_refl _, by omega⟩
  · show st + (1 - 1) * sp ≤ _
    rw [show (1 : Int) - 1 = 0 from rfl, Int.zero_mul]; omega
  · show 1 ≤ (List.replicate n (0, 0)).length ∧ (List.replicate n (0, 0)).length ≤ 16
    rw [List.length_replicate]; omega
  · rw [List.eq_of_mem_replicate hp]
    show (0 : Int) ≤ 0 ∧ (0 : Int) ≤ 1048576 ∧ (0 : Int) ≤ 0 ∧ (0 : Int) ≤ 1048576
    omega
set_option maxHeartbeats 4000000 in
set_option maxRecDepth 20000 in
theorem rnew_bad (w : World) (su st sp bd : Int) (h : ¬ goodLot su st sp bd) :
    Calls Try.prog 29 #[.int .i64 su, .int .i64 st, .int .i64 sp, .int .i64 bd] w fun e w' => e = .returned (.tuple #[.agg #[.int .i64 0, .int .i64 0, .int .i64 0, .int .i64 0, .slice none 0 0], .bool false]) ∧ Below w.heap.size w w' := by
  by_cases h1 : su < 1
  · clear h
    go_enter Try.func29, Try.ntmps29
    go_wp2
    (try simp only [Exit.inBlock, Exit.then])
    refine bodyPost_ret (by simp [results, Try.results29, asAddr, go_sem]; rfl) rfl ?_
    exact ⟨rfl, by repeat (first | exact Below.refl _ _ | (refine Below.setCell ?_ ?_ _; rotate_left; (try simp); rotate_left) | (refine Below.alloc ?_ (by simp) _))⟩
  have g1 : 1 ≤ su := by omega
  by_cases h2 : 1048576 < su
  · clear h h1
    go_enter Try.func29, Try.ntmps29
    go_wp2
    (try simp only [Exit.inBlock, Exit.then])
    refine bodyPost_ret (by simp [results, Try.results29, asAddr, go_sem]; rfl) rfl ?_
    exact ⟨rfl, by repeat (first | exact Below.refl _ _ | (refine Below.setCell ?_ ?_ _; rotate_left; (try simp); rotate_left) | (refine Below.alloc ?_ (by simp) _))⟩
  have g2 : su ≤ 1048576 := by omega
  by_cases h3 : st < 0
  · clear h h1 h2
    go_enter Try.func29, Try.ntmps29
    go_wp2
    (try simp only [Exit.inBlock, Exit.then])
    refine bodyPost_ret (by simp [results, Try.results29, asAddr, go_sem]; rfl) rfl ?_
    exact ⟨rfl, by repeat (first | exact Below.refl _ _ | (refine Below.setCell ?_ ?_ _; rotate_left; (try simp); rotate_left) | (refine Below.alloc ?_ (by simp) _))⟩
  have g3 : 0 ≤ st := by omega
  by_cases h4 : 1099511627776 < st
  · clear h h1 h2 h3
    go_enter Try.func29, Try.ntmps29
    go_wp2
    (try simp only [Exit.inBlock, Exit.then])
    refine bodyPost_ret (by simp [results, Try.results29, asAddr, go_sem]; rfl) rfl ?_
    exact ⟨rfl, by repeat (first | exact Below.refl _ _ | (refine Below.setCell ?_ ?_ _; rotate_left; (try simp); rotate_left) | (refine Below.alloc ?_ (by simp) _))⟩
  have g4 : st ≤ 1099511627776 := by omega
  by_cases h5 : sp < 1
  · clear h h1 h2 h3 h4
    go_enter Try.func29, Try.ntmps29
    go_wp2
    (try simp only [Exit.inBlock, Exit.then])
    refine bodyPost_ret (by simp [results, Try.results29, asAddr, go_sem]; rfl) rfl ?_
    exact ⟨rfl, by repeat (first | exact Below.refl _ _ | (refine Below.setCell ?_ ?_ _; rotate_left; (try simp); rotate_left) | (refine Below.alloc ?_ (by simp) _))⟩
  have g5 : 1 ≤ sp := by omega
  by_cases h6 : 1099511627776 < sp
  · clear h h1 h2 h3 h4 h5
    go_enter Try.func29, Try.ntmps29
    go_wp2
    (try simp only [Exit.inBlock, Exit.then])
    refine bodyPost_ret (by simp [results, Try.results29, asAddr, go_sem]; rfl) rfl ?_
    exact ⟨rfl, by repeat (first | exact Below.refl _ _ | (refine Below.setCell ?_ ?_ _; rotate_left; (try simp); rotate_left) | (refine Below.alloc ?_ (by simp) _))⟩
  have g6 : sp ≤ 1099511627776 := by omega
  by_cases h7 : bd < 1
  · clear h h1 h2 h3 h4 h5 h6
    go_enter Try.func29, Try.ntmps29
    go_wp2
    (try simp only [Exit.inBlock, Exit.then])
    refine bodyPost_ret (by simp [results, Try.results29, asAddr, go_sem]; rfl) rfl ?_
    exact ⟨rfl, by repeat (first | exact Below.refl _ _ | (refine Below.setCell ?_ ?_ _; rotate_left; (try simp); rotate_left) | (refine Below.alloc ?_ (by simp) _))⟩
  have g7 : 1 ≤ bd := by omega
  have h8 : 16 < bd := by
    rcases Int.lt_or_le 16 bd with h8 | h8
    · exact h8
    · exact (h ⟨g1, g2, g3, g4, g5, g6, g7, h8⟩).elim
  clear h h1 h2 h3 h4 h5 h6 h7
  go_enter Try.func29, Try.ntmps29
  go_wp2
  (try simp only [Exit.inBlock, Exit.then])
  refine bodyPost_ret (by simp [results, Try.results29, asAddr, go_sem]; rfl) rfl ?_
  exact ⟨rfl, by repeat (first | exact Below.refl _ _ | (refine Below.setCell ?_ ?_ _; rotate_left; (try simp); rotate_left) | (refine Below.alloc ?_ (by simp) _))⟩
set_option maxHeartbeats 8000000 in
set_option maxRecDepth 20000 in
theorem rnew_good (w : World) (su st sp : Int) (m : Nat) (h : goodLot su st sp m) :
    Calls Try.prog 29 #[.int .i64 su, .int .i64 st, .int .i64 sp, .int .i64 (m : Int)] w fun e w' => ∃ A XS c, e = .returned (.tuple #[rval (Auc.fresh su st sp m) A 1 c, .bool true]) ∧ XS.length = 1 ∧ 1 ≤ c ∧ Below w.heap.size w w' ∧ Lasts w w' (fun _ => True) (RA A XS (Auc.fresh su st sp m)) := by
  obtain ⟨g1, g2, g3, g4, g5, g6, g7, g8⟩ := h
  obtain ⟨i1, hi1, hy0, hy1, hy2⟩ := info_parts info_int
  have HI1 := Lib.hid hi1
  have HY0 := Lib.hid hy0
  have HY1 := Lib.hid hy1
  have HY2 := Lib.hid hy2
  have hb0 : Hid (Below w.heap.size w ((w.alloc (.cells #[.int .i64 0, .int .i64 0, .int .i64 0, .int .i64 0, .slice none 0 0] 56)).alloc (.cells #[.int .i64 0, .int .i64 0, .int .i64 0, .int .i64 0, .slice none 0 0] 56))) := Lib.hid (((Below.refl _ _).alloc (Nat.le_refl _) _).alloc (by simp) _)
  have B1 : Hid (Blk ((w.alloc (.cells #[.int .i64 0, .int .i64 0, .int .i64 0, .int .i64 0, .slice none 0 0] 56)).alloc (.cells #[.int .i64 0, .int .i64 0, .int .i64 0, .int .i64 0, .slice none 0 0] 56)) w.heap.size 56 #[.int .i64 0, .int .i64 0, .int .i64 0, .int .i64 0, .slice none 0 0]) := Lib.hid ((Blk.new w 56 #[.int .i64 0, .int .i64 0, .int .i64 0, .int .i64 0, .slice none 0 0]).alloc (.cells #[.int .i64 0, .int .i64 0, .int .i64 0, .int .i64 0, .slice none 0 0] 56))
  have hm16 : m ≤ 16 := by omega
  clear hi1 hy0 hy1 hy2
  go_enter Try.func29, Try.ntmps29
  go_upto_region 4 with (fail)
  obtain ⟨g, hg⟩ : ∃ g, w.heap.size = g := ⟨_, rfl⟩
  have HG := Lib.hid hg
  rw [hg] at B1 ⊢
  clear hg
  generalize World.alloc (World.alloc w _) _ = wy at hb0 B1 ⊢
  have HX : Hid (∀ wx : World, Below wy.heap.size wy wx → (wx.cell? ⟨g, 0, none⟩ = some (.int .i64 0) ∧ wx.cell? ⟨g, 1, none⟩ = some (.int .i64 0) ∧ wx.cell? ⟨g, 2, none⟩ = some (.int .i64 0) ∧ wx.cell? ⟨g, 3, none⟩ = some (.int .i64 0) ∧ wx.cell? ⟨g, 4, none⟩ = some (.slice none 0 0)) ∧ (wx.frozen? ⟨g, 0, none⟩ = false ∧ wx.frozen? ⟨g, 1, none⟩ = false ∧ wx.frozen? ⟨g, 2, none⟩ = false ∧ wx.frozen? ⟨g, 3, none⟩ = false ∧ wx.frozen? ⟨g, 4, none⟩ = false)) := Lib.hid fun wx hb => by
    have b1 := B1.out.below hb B1.out.lt
    exact ⟨⟨b1.cell 0, b1.cell 1, b1.cell 2, b1.cell 3, b1.cell 4⟩, ⟨b1.frozen 0, b1.frozen 1, b1.frozen 2, b1.frozen 3, b1.frozen 4⟩⟩
  have HSz : Hid (g < wy.heap.size) := Lib.hid B1.out.lt
  go_wp2
  go_loopg [11, 12] (m + 1) (fun gk s11 s12 wr => ∃ i L c, gk = m + 1 - i ∧ i ≤ m ∧ s12 = .int .i64 (i : Int) ∧ s11 = .slice L i c ∧ Hid (Mine wy wr 1 (.slice L i c) i (icells (List.replicate i 0))) ∧ Hid (Below wy.heap.size wy wr))
  case atStart => exact ⟨0, none, 0, rfl, Nat.zero_le _, rfl, rfl, Lib.hid (Mine.empty _ _ _ _), Lib.hid (Below.refl _ _)⟩
  case round =>
    obtain ⟨i, L, c, rfl, hi, rfl, rfl, hM, hb⟩ := hrel
    have i0 : (0 : Int) ≤ (i : Int) := by omega
    by_cases hlt : i < m
    · have hltI : (i : Int) < (m : Int) := by omega
      have hA1 : Hid (i + 1 ≤ maxLen) := Lib.hid (by unfold maxLen; omega)
      have hA2 : Hid ((i + 1) * 8 ≤ 140737488355328) := Lib.hid (by omega)
      have hA3 : Hid (∀ u ∈ [Value.int .i64 0], u.oneCell' = true) := Lib.hid (by simp [Value.oneCell'])
      go_wp2_with (first
        | (refine wpList_append_mine rfl (.tmp 49) (.tmp 50) 22 22 rfl 3 i1 (.int .i64 0) 8 Try.underlying22 HI1.out HY0.out HY1.out HY2.out rfl (by decide) rfl (hM.out.alloc _) (hb.out.alloc hb.out.size _) _ 1 [.int .i64 0] rfl (src_new Try.underlying22 _ _ _ 1 1 rfl hA3.out) hA1.out hA2.out ?_; intro A2 c2 w2 hm2 hb2; have HM2 := Lib.hid hm2; have HB2 := Lib.hid hb2; clear hm2 hb2))
      go_roundg (m + 1 - (i + 1))
      case measure => omega
      case rel => exact ⟨i + 1, A2, c2, rfl, by omega, by go_num, rfl, Lib.hid (by rw [rep_snoc]; exact HM2.out), HB2⟩
    · obtain rfl : m = i := by omega
      obtain ⟨⟨z0, z1, z2, z3, z4⟩, ⟨f0, f1, f2, f3, f4⟩⟩ := HX.out wr hb.out
      have hm1 : 0 < m := by omega
      obtain ⟨gl, ol, rfl, hgl⟩ := hM.out.at1 hm1
      have hglt : Hid (∀ g', gl = g' → wy.heap.size ≤ g') := Lib.hid fun g' e => e ▸ hgl
      have hm' := Lib.hid hm1
      clear hm1 hgl hlt
      have Blast : Hid (Blk (wr.alloc (.cells #[.slice (some ⟨gl, ol, none⟩) m c] 22)) wr.heap.size 22 #[.slice (some ⟨gl, ol, none⟩) m c]) := Lib.hid (Blk.new _ _ _)
      have hgw : g < wr.heap.size := Nat.lt_of_lt_of_le HSz.out hb.out.size
      go_wp2
      (try simp only [Exit.inBlock, Exit.then])
      have hO : Only (fun b => b < wy.heap.size) wr (((((wr.setCell ⟨g, 0, none⟩ (.int .i64 su)).setCell ⟨g, 1, none⟩ (.int .i64 st)).setCell ⟨g, 2, none⟩ (.int .i64 sp)).setCell ⟨g, 3, none⟩ (.int .i64 0)).setCell ⟨g, 4, none⟩ (.slice (some ⟨wr.heap.size, 0, none⟩) 1 1)) := only_five (g := g) (Only.refl _ _) HSz.out (.int .i64 su) (.int .i64 st) (.int .i64 sp) (.int .i64 0) (.slice (some ⟨wr.heap.size, 0, none⟩) 1 1)
      have hbr := below_five (g := g) (below_next hb0.out hb.out) (by rw [HG.out]; exact Nat.le_refl _) (.int .i64 su) (.int .i64 st) (.int .i64 sp) (.int .i64 0) (.slice (some ⟨wr.heap.size, 0, none⟩) 1 1)
      have hF0 := hM.out.only hO
      have Bf0 := ((((((B1.out.below hb.out B1.out.lt).set_ 0 (.int .i64 su)).set_ 1 (.int .i64 st)).set_ 2 (.int .i64 sp)).set_ 3 (.int .i64 0)).set_ 4 (.slice (some ⟨wr.heap.size, 0, none⟩) 1 1))
      have hsz : (((((wr.setCell ⟨g, 0, none⟩ (.int .i64 su)).setCell ⟨g, 1, none⟩ (.int .i64 st)).setCell ⟨g, 2, none⟩ (.int .i64 sp)).setCell ⟨g, 3, none⟩ (.int .i64 0)).setCell ⟨g, 4, none⟩ (.slice (some ⟨wr.heap.size, 0, none⟩) 1 1)).heap.size = wr.heap.size := by simp
      generalize (World.setCell (World.setCell (World.setCell (World.setCell (World.setCell wr _ _) _ _) _ _) _ _) _ _) = W5 at hO hbr hF0 Bf0 hsz ⊢
      have Bf := Bf0.alloc (.cells #[.slice (some ⟨gl, ol, none⟩) m c] 22)
      have k0 : (W5.alloc (.cells #[.slice (some ⟨gl, ol, none⟩) m c] 22)).cell? ⟨g, 0, none⟩ = some (.int .i64 su) := Bf.cell 0
      have k1 : (W5.alloc (.cells #[.slice (some ⟨gl, ol, none⟩) m c] 22)).cell? ⟨g, 1, none⟩ = some (.int .i64 st) := Bf.cell 1
      have k2 : (W5.alloc (.cells #[.slice (some ⟨gl, ol, none⟩) m c] 22)).cell? ⟨g, 2, none⟩ = some (.int .i64 sp) := Bf.cell 2
      have k3 : (W5.alloc (.cells #[.slice (some ⟨gl, ol, none⟩) m c] 22)).cell? ⟨g, 3, none⟩ = some (.int .i64 0) := Bf.cell 3
      have k4 : (W5.alloc (.cells #[.slice (some ⟨gl, ol, none⟩) m c] 22)).cell? ⟨g, 4, none⟩ = some (.slice (some ⟨wr.heap.size, 0, none⟩) 1 1) := Bf.cell 4
      have hF := hF0.alloc (.cells #[.slice (some ⟨gl, ol, none⟩) m c] 22)
      have hA2 : Mine wy (W5.alloc (.cells #[.slice (some ⟨gl, ol, none⟩) m c] 22)) 1 (.slice (some ⟨W5.heap.size, 0, none⟩) 1 1) 1 (svals m [(some ⟨gl, ol, none⟩, c)]) := Mine.fresh ⟨_, _, heap_alloc_new W5 _, rfl, fun j _ => by rw [← Array.getElem?_toList]; rfl⟩ rfl (Nat.le_refl _) (by unfold maxLen; omega) (by rw [hsz]; exact hb.out.size)
      have hba := hbr.alloc hbr.size (.cells #[.slice (some ⟨gl, ol, none⟩) m c] 22)
      rw [hsz] at hA2
      generalize World.alloc W5 _ = W at hF hA2 hba k0 k1 k2 k3 k4 ⊢
      refine bodyPost_ret (by simp [results, Try.results29, asAddr, go_sem, k0, k1, k2, k3, k4]; rfl) rfl ?_
      refine ⟨some ⟨wr.heap.size, 0, none⟩, [(some ⟨gl, ol, none⟩, c)], 1, rfl, rfl, Nat.le_refl _, hba, ?_⟩
      intro W' hs hk _
      have hl : (Auc.fresh su st sp m).l.length = m := List.length_replicate
      have hwy := hb0.out.size
      refine ⟨?_, ?_, fun h2 => ?_⟩
      · rw [hl]
        exact (hA2.carry hs fun q h1 h2 => hk q (Nat.le_trans hwy h1) h2).srow rfl
      · have e : (Auc.fresh su st sp m).nowl = List.replicate m 0 := by unfold Auc.nowl Auc.fresh; simp
        rw [e]
        exact (hF.carry hs fun q h1 h2 => hk q (Nat.le_trans hwy h1) h2).irow
      · exact absurd (show 2 ≤ 1 from h2) (by omega)
end Go.Proofs.Ytccmafmeblojpaa
