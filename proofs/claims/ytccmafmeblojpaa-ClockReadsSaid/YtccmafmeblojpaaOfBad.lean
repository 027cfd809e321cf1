/- Of refuses bytes that are no auction's. -/
import Derived.Test.YtccmafmeblojpaaInv2
import Derived.Test.YtccmafmeblojpaaRaw
namespace Go.Proofs.Ytccmafmeblojpaa
open Go.RowKit
set_option linter.unusedVariables false
set_option linter.unusedSimpArgs false
theorem rdGo_err : ∀ (bs : List Nat) (i n e : Nat), rdGo bs i n = .err e → e = 10 ∨ e = 11
  | [], i, n, e, h => by
    rw [rdGo] at h
    injection h with h
    exact .inl h.symm
  | c :: bs, i, n, e, h => by
    rw [rdGo] at h
    split at h
    · split at h
      · injection h with h
        exact .inr h.symm
      · exact rdGo_err bs _ _ _ h
    · split at h
      · injection h with h
        exact .inr h.symm
      · simp at h
def NoAuc (w : World) (e : Ending) (w' : World) : Prop := e = .returned (.tuple #[.pointer none, .int .i64 92]) ∧ Below w.heap.size w w'
set_option maxHeartbeats 16000000 in
set_option maxRecDepth 100000 in
theorem of_bad (w : World) (s : ByteArray) (hs : s.size ≤ 140737488351232) (hT : ¬ Taken s) : Calls Try.prog 34 #[.string s] w (NoAuc w) := by
  have HT := Lib.hid hT
  have HG := Lib.hid (fun wx (at0 : Nat) ha => getInt_calls wx s at0 hs ha)
  have HB0 : Hid (byt s = bytN [] ++ (byt s).drop 0) := Lib.hid rfl
  obtain ⟨i1, hi1, hy0, hy1, hy2⟩ := info_parts info_int
  have HI1 := Lib.hid hi1
  have HY0 := Lib.hid hy0
  have HY1 := Lib.hid hy1
  have HY2 := Lib.hid hy2
  have hsz := Lib.hid hs
  clear hT hi1 hy0 hy1 hy2 hs
  go_enter Try.func34, Try.ntmps34
  go_wp2
  go_loopg [4, 5] 41 (fun gk s4 s5 wr => ∃ (k : Nat) (L : List Int) (A : Option Addr) (c p : Nat), gk = 41 - k ∧ k ≤ 39 ∧ s5 = .int .i64 (p : Int) ∧ s4 = .slice A k c ∧ Hid (L.length = k) ∧ Hid (p ≤ s.size) ∧ Hid (Mine w wr 1 (.slice A k c) k (icells L)) ∧ Hid (Below w.heap.size w wr) ∧ Hid (byt s = bytN L ++ (byt s).drop p) ∧ Hid (∀ x ∈ L, 0 ≤ x ∧ x ≤ 9007199254740992))
  case atStart => exact ⟨0, [], none, 0, 0, rfl, by omega, rfl, rfl, Lib.hid rfl, Lib.hid (Nat.zero_le _), Lib.hid (Mine.empty _ _ _ _), Lib.hid (Below.refl _ _), HB0, Lib.hid (by simp)⟩
  case round =>
    clear HB0
    obtain ⟨k, L, A, c, p, rfl, hk, rfl, rfl, hLk, hp, hM, hb, hS, hx⟩ := hrel
    have p0 : (0 : Int) ≤ (p : Int) := by omega
    have k0 : (0 : Int) ≤ (k : Int) := by omega
    by_cases hlt : p < s.size
    · have hpI : (p : Int) < (s.size : Int) := by omega
      have HGx := HG.out wr p hp.out
      unfold GetTo at HGx
      cases hrd : rdGo ((byt s).drop p) 0 0 with
      | err er =>
        rw [hrd] at HGx
        simp only at HGx
        have HGy := Lib.hid HGx
        have her := rdGo_err _ _ _ _ hrd
        have herI : ((er : Int) != 0) = true := by simp; omega
        have herN : (er == 0) = false := by simp; omega
        have herN2 : (er != 0) = true := by simp; omega
        clear hrd HGx her hlt
        go_wp2_with (first
          | (go_at_call 45; (refine (HGy.out).mono ?_); rintro e w1 ⟨hh, rfl⟩; have hb1 := Lib.hid (below_next hb.out hh); clear hh))
        go_ret2
        exact ⟨rfl, hb1.out⟩
      | ok v u =>
        rw [hrd] at HGx
        simp only at HGx
        have HGy := Lib.hid HGx
        obtain ⟨u1, u2, u3⟩ := rdGo_used _ _ _ _ _ hrd
        have hon := Lib.hid (read_on hS.out hrd)
        have hp2 : Hid (p + u ≤ s.size) := Lib.hid (by rw [List.length_drop, byt_length] at u2; omega)
        have hx2 : Hid (∀ x ∈ L ++ [(v : Int)], 0 ≤ x ∧ x ≤ 9007199254740992) := Lib.hid fun x hm => by
          rcases List.mem_append.1 hm with hm | hm
          · exact hx.out x hm
          · rw [List.mem_singleton] at hm; omega
        obtain ⟨q, hq⟩ : ∃ q, Hid (p + u = q) := ⟨_, Lib.hid rfl⟩
        rw [hq.out] at HGy hon hp2
        clear hrd HGx u1 u2 u3 hlt
        by_cases h38 : 38 < k
        · have h38I : (38 : Int) < (k : Int) := by omega
          clear h38
          go_wp2_with (first
            | (go_at_call 45; (refine (HGy.out).mono ?_); rintro e w1 ⟨hh, rfl⟩; have hb1 := Lib.hid (below_next hb.out hh); clear hh))
          go_ret2
          exact ⟨rfl, hb1.out⟩
        · have hk38 : k ≤ 38 := by omega
          have hA1 : Hid (k + 1 ≤ maxLen) := Lib.hid (by unfold maxLen; omega)
          have hA2 : Hid ((k + 1) * 8 ≤ 140737488355328) := Lib.hid (by omega)
          have hA3 : Hid (∀ x, ∀ u ∈ [Value.int .i64 x], u.oneCell' = true) := Lib.hid fun x => by simp [Value.oneCell']
          clear h38
          go_wp2_with (first
            | (go_at_call 45; (refine (HGy.out).mono ?_); rintro e w1 ⟨hh, rfl⟩; have hM1 := Lib.hid (hM.out.below hh); have hb1 := Lib.hid (below_next hb.out hh); clear hh)
            | (refine wpList_append_mine rfl (.tmp 30) (.tmp 32) 22 22 rfl 3 i1 (.int .i64 0) 8 Try.underlying22 HI1.out HY0.out HY1.out HY2.out rfl (by decide) rfl (hM1.out.alloc _) (hb1.out.alloc hb1.out.size _) _ 1 [.int .i64 (v : Int)] rfl (src_new Try.underlying22 _ _ _ 1 1 rfl (hA3.out _)) hA1.out hA2.out ?_; intro A2 c2 w2 hm2 hb2; have HM2 := Lib.hid hm2; have HB2 := Lib.hid hb2; clear hm2 hb2))
          go_roundg (41 - (k + 1))
          case measure => omega
          case rel => exact ⟨k + 1, L ++ [(v : Int)], A2, c2, q, rfl, by omega, rfl, rfl, Lib.hid (by rw [List.length_append, hLk.out]; rfl), hp2, Lib.hid (by rw [icells_append]; exact HM2.out), HB2, hon, hx2⟩
    · have hpI : ¬ (p : Int) < (s.size : Int) := by omega
      have hpe : Hid (p = s.size) := Lib.hid (by have := hp.out; omega)
      have hSL : Hid (byt s = bytN L) := Lib.hid (by
        have h := hS.out
        rw [byt_drop_end s (by rw [hpe.out]; exact Nat.le_refl _), List.append_nil] at h
        exact h)
      obtain ⟨m, hme⟩ : ∃ m, k = m := ⟨_, rfl⟩
      subst hme
      have hk39 := Lib.hid hk
      clear hlt hp hS hk
      by_cases m6 : k < 6
      · have m6I : (k : Int) < 6 := by omega
        clear m6
        go_wp2
        go_ret2
        exact ⟨rfl, hb.out⟩
      have m6I : ¬ (k : Int) < 6 := by omega
      have m6B : decide ((k : Int) < 6) = false := by simpa using m6I
      by_cases m2 : k % 2 = 0
      case neg =>
        have t2 : (k : Int).tmod 2 = 1 := by
          rw [Int.tmod_eq_emod_of_nonneg (by omega)]; omega
        clear m6 m2
        go_wp2
        go_ret2
        exact ⟨rfl, hb.out⟩
      obtain ⟨n, hm⟩ : ∃ n, Hid (6 + 2 * n = k) := ⟨(k - 6) / 2, Lib.hid (by omega)⟩
      have HLL := hLk
      have n0 : (0 : Int) ≤ (n : Int) := by omega
      have hmI := Lib.hid (show (k : Int) = 6 + 2 * (n : Int) from by rw [← hm.out]; push_cast; rfl)
      have hn16 : n ≤ 16 := by have := hm.out; have := hk39.out; omega
      have t2 : (k : Int).tmod 2 = 0 := Int.tmod_eq_zero_of_dvd (by have := hmI.out; omega)
      have t3 : IntKind.i64.wrap ((k : Int) - 6) = 2 * (n : Int) := by rw [IntKind.wrap_i64]; have := hmI.out; omega
      have t4 : (2 * (n : Int)).tdiv 2 = (n : Int) := by rw [Int.tdiv_eq_ediv_of_nonneg (by omega)]; omega
      have t5 : (5 : Int) < (k : Int) := by omega
      obtain ⟨go, oo, rfl, hgo⟩ := hM.out.at1' (by omega)
      have HIR0 : Hid (IRow wr (some ⟨go, oo, none⟩) L) := Lib.hid hM.out.irow
      have d5 : wr.cell? ⟨go, oo + 5, none⟩ = some (.int .i64 (L.getD 5 0)) := IRow.cell HIR0.out (by rw [HLL.out]; omega)
      by_cases h5 : L.getD 5 0 = (n : Int)
      case neg =>
        obtain ⟨y5, hy5⟩ : ∃ y5, L.getD 5 0 = y5 := ⟨_, rfl⟩
        rw [hy5] at d5 h5
        have h5B : (y5 != (n : Int)) = true := by simpa using h5
        have h5B2 : (y5 == (n : Int)) = false := by simpa using h5
        clear m6 m2 h5 hy5
        go_wp2
        go_ret2
        exact ⟨rfl, hb.out⟩
      obtain ⟨a, hae⟩ : ∃ a, Hid (aucOf L = a) := ⟨_, Lib.hid rfl⟩
      have hal := aucOf_laid (L := L) (n := n) (by rw [HLL.out]; exact hm.out.symm) h5
      have hae2 := aucOf_each (L := L) (n := n) (by rw [HLL.out]; exact hm.out.symm) h5 hx.out
      have hTk := taken_of hSL.out (by rw [HLL.out]; exact hm.out.symm) h5
      have HLs : Hid (L.getD 0 0 = a.supply ∧ L.getD 1 0 = a.start ∧ L.getD 2 0 = a.step ∧ L.getD 3 0 = a.round ∧ L.getD 4 0 = a.state ∧ L.getD 5 0 = (n : Int)) := Lib.hid (by rw [← hae.out]; exact ⟨rfl, rfl, rfl, rfl, rfl, h5⟩)
      have hxx : ∀ j, j < k → 0 ≤ L.getD j 0 ∧ L.getD j 0 ≤ 9007199254740992 := fun j hj => hx.out _ (by
        rw [List.getD_eq_getElem?_getD, List.getElem?_eq_getElem (by rw [HLL.out]; exact hj)]; exact List.getElem_mem _)
      rw [hae.out] at hal hae2 hTk
      have hL := Lib.hid hal.1
      have hn := Lib.hid hal.2
      have HNR : Hid (¬ a.Right) := Lib.hid fun h => HT.out (hTk h)
      have x3 := hxx 3 (by omega)
      have x4 := hxx 4 (by omega)
      have x0 := hxx 0 (by omega)
      have x1 := hxx 1 (by omega)
      have x2 := hxx 2 (by omega)
      rw [HLs.out.2.2.2.1] at x3
      rw [HLs.out.2.2.2.2.1] at x4
      by_cases hgood : 1 ≤ a.supply ∧ a.supply ≤ 1048576 ∧ 0 ≤ a.start ∧ a.start ≤ 1099511627776 ∧ 1 ≤ a.step ∧ a.step ≤ 1099511627776 ∧ 1 ≤ n
      case neg =>
        have HNb : Hid (∀ w1, Calls Try.prog 18 #[.int .i64 a.supply, .int .i64 a.start, .int .i64 a.step, .int .i64 (n : Int)] w1 fun e w' => e = .returned (.tuple #[.pointer none, .int .i64 1]) ∧ ∃ d, w' = w1.drewN d) := Lib.hid fun w1 => (new_bad a.supply a.start a.step (n : Int) w1 (by rw [← HLs.out.1, ← HLs.out.2.1, ← HLs.out.2.2.1] at hgood ⊢; omega)).mono fun e w' ⟨h1, h2⟩ => ⟨h1, 0, h2⟩
        have d0 : wr.cell? ⟨go, oo, none⟩ = some (.int .i64 a.supply) := by rw [← HLs.out.1]; exact IRow.cell HIR0.out (i := 0) (by rw [HLL.out]; omega)
        have d1 : wr.cell? ⟨go, oo + 1, none⟩ = some (.int .i64 a.start) := by rw [← HLs.out.2.1]; exact IRow.cell HIR0.out (by rw [HLL.out]; omega)
        have d2 : wr.cell? ⟨go, oo + 2, none⟩ = some (.int .i64 a.step) := by rw [← HLs.out.2.2.1]; exact IRow.cell HIR0.out (by rw [HLL.out]; omega)
        rw [h5] at d5
        have t7 : (1 : Int) < (k : Int) := by omega
        have t8 : (2 : Int) < (k : Int) := by omega
        have t11 : 0 < k := by omega
        have t6 : (0 : Int) < (k : Int) := by omega
        clear m6 m2 hgood x0 x1 x2 x3 x4 hxx hae2 hTk hal h5
        go_upto_region 11 with (fail)
        go_quiet ((go_at_call 18; (with_reducible refine (HNb.out _).mono ?_); rintro e w' ⟨rfl, ⟨nd, rfl⟩⟩; first | exact ⟨rfl, _, World.drewN_drewN _ _ _⟩ | exact ⟨rfl, _, rfl⟩))
        go_wp2
        go_ret2
        exact ⟨rfl, below_draw hb.out _⟩
      have HRw : Hid a.Raw := Lib.hid ⟨⟨hgood.1, hgood.2.1⟩, ⟨hgood.2.2.1, hgood.2.2.2.1⟩, ⟨hgood.2.2.2.2.1, hgood.2.2.2.2.2.1⟩, x3, x4, by rw [hn.out]; exact ⟨hgood.2.2.2.2.2.2, hn16⟩, hae2⟩
      have hm6 : 8 ≤ k := by have := hm.out; have := hgood.2.2.2.2.2.2; omega
      have hm38 : k ≤ 39 := hk39.out
      clear m6 m2 hgood x0 x1 x2 x3 x4 hxx hae2 hTk hal h5 d5 t2 t3 t4 t5 m6I m6B
      have HIR : Hid (IRow wr (some ⟨go, oo, none⟩) L) := Lib.hid hM.out.irow
      have hgol : Hid (go < wr.heap.size) := Lib.hid (by
        obtain ⟨b', o', e, h1, _⟩ := Row.at_ HIR.out (k := 0) (by rw [HLL.out]; omega)
        cases e; exact h1)
      have HCl : Hid (∀ wx : World, wx.heap[go]? = wr.heap[go]? → ∀ j, j < k → wx.cell? ⟨go, oo + j, none⟩ = some (.int .i64 (L.getD j 0))) := Lib.hid fun wx hx j hj => by
        rw [World.cell?_of_block (a := ⟨go, oo + j, none⟩) hx]
        exact IRow.cell HIR.out (by rw [HLL.out]; exact hj)
      obtain ⟨L0, L1, L2, L3, L4, L5⟩ := HLs.out
      have HC6 : Hid (∀ wx : World, wx.heap[go]? = wr.heap[go]? → wx.cell? ⟨go, oo, none⟩ = some (.int .i64 a.supply) ∧ wx.cell? ⟨go, oo + 1, none⟩ = some (.int .i64 a.start) ∧ wx.cell? ⟨go, oo + 2, none⟩ = some (.int .i64 a.step) ∧ wx.cell? ⟨go, oo + 3, none⟩ = some (.int .i64 a.round) ∧ wx.cell? ⟨go, oo + 4, none⟩ = some (.int .i64 a.state) ∧ wx.cell? ⟨go, oo + 5, none⟩ = some (.int .i64 (n : Int))) := Lib.hid fun wx hx => by
        have h := HCl.out wx hx
        exact ⟨by rw [← L0]; exact h 0 (by omega), by rw [← L1]; exact h 1 (by omega), by rw [← L2]; exact h 2 (by omega), by rw [← L3]; exact h 3 (by omega), by rw [← L4]; exact h 4 (by omega), by rw [← L5]; exact h 5 (by omega)⟩
      have HNew : Hid (∀ wx, Calls Try.prog 18 #[.int .i64 a.supply, .int .i64 a.start, .int .i64 a.step, .int .i64 (n : Int)] wx fun e w' => ∃ g gl, e = .returned (.tuple #[.pointer (some ⟨g, 0, none⟩), .int .i64 0]) ∧ Aw wx w' g gl (Auc.fresh a.supply a.start a.step n)) := Lib.hid fun wx => by
        have hok := HRw.out
        exact Aw.new wx a.supply a.start a.step n hok.supply hok.start hok.step (by have := hok.len; rw [hn.out] at this; omega)
      have t1 : decide ((k : Int) < 6) = false := by simp; omega
      have t2 : (k : Int).tmod 2 = 0 := Int.tmod_eq_zero_of_dvd (by have := hmI.out; omega)
      have t3 : IntKind.i64.wrap ((k : Int) - 6) = 2 * (n : Int) := by rw [IntKind.wrap_i64]; have := hmI.out; omega
      have t4 : (2 * (n : Int)).tdiv 2 = (n : Int) := by rw [Int.tdiv_eq_ediv_of_nonneg (by omega)]; omega
      have t5 : (5 : Int) < (k : Int) := by omega
      have t6 : (0 : Int) < (k : Int) := by omega
      have t7 : (1 : Int) < (k : Int) := by omega
      have t8 : (2 : Int) < (k : Int) := by omega
      have t9 : (3 : Int) < (k : Int) := by omega
      have t10 : (4 : Int) < (k : Int) := by omega
      have t11 : 0 < k := by omega
      obtain ⟨-, -, -, -, -, d5⟩ := HC6.out wr rfl
      clear L0 L1 L2 L3 L4 L5 hm6 hm38
      go_upto_region 11 with (fail)
      have Hd0 : Hid (Below wr.heap.size wr wr.drew) := Lib.hid (Below.refl _ _).drew
      have HSx : Hid (∀ wx, Below wr.heap.size wr wx → (wx.cell? ⟨go, oo, none⟩ = some (.int .i64 a.supply) ∧ wx.cell? ⟨go, oo + 1, none⟩ = some (.int .i64 a.start) ∧ wx.cell? ⟨go, oo + 2, none⟩ = some (.int .i64 a.step) ∧ wx.cell? ⟨go, oo + 5, none⟩ = some (.int .i64 (n : Int)))) := Lib.hid fun wx hh => by
        obtain ⟨d0, d1, d2, _, _, d5⟩ := HC6.out wx (hh.block go hgol.out)
        exact ⟨d0, d1, d2, d5⟩
      clear d5 t1 t2 t3 t4
      go_region_held3 (fun wx => (wx.cell? ⟨go, oo, none⟩ = some (.int .i64 a.supply) ∧ wx.cell? ⟨go, oo + 1, none⟩ = some (.int .i64 a.start) ∧ wx.cell? ⟨go, oo + 2, none⟩ = some (.int .i64 a.step) ∧ wx.cell? ⟨go, oo + 5, none⟩ = some (.int .i64 (n : Int))))
        (first | (with_reducible exact HSx.out _ Hd0.out) | (with_reducible exact HSx.out _ hb7.out) | fail)
        (first
          | (go_at_call 18; (with_reducible refine (HNew.out _).mono ?_); rintro e w7 ⟨g, gl, rfl, hh⟩; have HA := Lib.hid hh; have hb7 : Hid (Below wr.heap.size wr w7) := Lib.hid (below_next Hd0.out hh.all); clear hh))
      have hb7w := Lib.hid (below_next hb.out hb7.out)
      have hgg : Hid (wr.heap.size ≤ g ∧ wr.heap.size ≤ gl) := Lib.hid ⟨HA.out.head, HA.out.list⟩
      have hgo7 : Hid (w7.heap[go]? = wr.heap[go]?) := Lib.hid (hb7.out.block go hgol.out)
      obtain ⟨-, -, -, d3, d4, -⟩ := HC6.out w7 hgo7.out
      have hfl : (Auc.fresh a.supply a.start a.step n).l.length = n := List.length_replicate
      have B7 : Hid (Blk w7 g 67 #[.int .i64 a.supply, .int .i64 a.start, .int .i64 a.step, .int .i64 1, .int .i64 0, .slice (some ⟨gl, 0, none⟩) n n]) := Lib.hid (by
        have := HA.out.at_.head
        unfold acells at this
        rw [hfl] at this
        exact this)
      have BL7 : Hid (Blk w7 gl 69 (bcells (layP a.l 0)).toArray) := Lib.hid (by
        rw [layP_zero, hn.out]; exact HA.out.at_.list)
      have hne : Hid (g ≠ gl) := Lib.hid HA.out.at_.ne
      have f3 := B7.out.frozen 3
      have f4 := B7.out.frozen 4
      have b3 : w7.cell? ⟨g, 3, none⟩ = some (.int .i64 1) := B7.out.cell 3
      have b4 : w7.cell? ⟨g, 4, none⟩ = some (.int .i64 0) := B7.out.cell 4
      have hgog : ¬ go = g := by have := hgg.out; have := hgol.out; omega
      have hgog2 : ¬ g = go := fun e => hgog e.symm
      go_upto_region 14 with (fail)
      have E0 : Hid (Blk ((w7.setCell ⟨g, 3, none⟩ (.int .i64 a.round)).setCell ⟨g, 4, none⟩ (.int .i64 a.state)).drew g 67 (acells a gl)) := Lib.hid (by
        have := ((B7.out.set_ 3 (.int .i64 a.round)).set_ 4 (.int .i64 a.state)).drew
        unfold acells
        rw [hn.out]
        exact this)
      have E1 : Hid (Blk ((w7.setCell ⟨g, 3, none⟩ (.int .i64 a.round)).setCell ⟨g, 4, none⟩ (.int .i64 a.state)).drew gl 69 (bcells (layP a.l 0)).toArray) := Lib.hid ((BL7.out.far (b := g) (j := 3) (fun e => hne.out e.symm) _).far (b := g) (j := 4) (fun e => hne.out e.symm) _).drew
      have E2 : Hid (((w7.setCell ⟨g, 3, none⟩ (.int .i64 a.round)).setCell ⟨g, 4, none⟩ (.int .i64 a.state)).drew.heap[go]? = wr.heap[go]?) := Lib.hid (by
        show ((w7.setCell ⟨g, 3, none⟩ (.int .i64 a.round)).setCell ⟨g, 4, none⟩ (.int .i64 a.state)).heap[go]? = _
        rw [heap_setCell_other _ ⟨g, 4, none⟩ go _ hgog, heap_setCell_other _ ⟨g, 3, none⟩ go _ hgog]
        exact hgo7.out)
      have E3 : Hid (Below w.heap.size w ((w7.setCell ⟨g, 3, none⟩ (.int .i64 a.round)).setCell ⟨g, 4, none⟩ (.int .i64 a.state)).drew) := Lib.hid (by
        have hgw : w.heap.size ≤ g := by have := hgg.out; have := hb.out.size; omega
        exact ((hb7w.out.setCell (p := ⟨g, 3, none⟩) hgw _).setCell (p := ⟨g, 4, none⟩) hgw _).drew)
      have E4 : Hid (go < ((w7.setCell ⟨g, 3, none⟩ (.int .i64 a.round)).setCell ⟨g, 4, none⟩ (.int .i64 a.state)).drew.heap.size) := Lib.hid (by have h1 := hb7.out.size; have h2 := hgol.out; simp; omega)
      go_region
      clear d3 d4 b3 b4 f3 f4
      generalize World.drew _ = w8 at E0 E1 E2 E3 E4 ⊢
      have c5 : w8.cell? ⟨g, 5, none⟩ = some (.slice (some ⟨gl, 0, none⟩) n n) := by
        have := E0.out.cell 5
        unfold acells at this
        rw [hn.out] at this
        exact this
      go_wp2
      clear c5
      have hglw : Hid (w.heap.size ≤ gl ∧ w.heap.size ≤ g ∧ go ≠ gl) := Lib.hid (by have := hgg.out; have := hb.out.size; have := hgol.out; omega)
      clear hgog hgog2
      go_loopg [89] (n + 1) (fun gk s89 wr => ∃ i, gk = n + 1 - i ∧ i ≤ n ∧ s89 = .int .i64 (i : Int) ∧ Hid (Only (fun b => b = gl) w8 wr) ∧ Hid (Blk wr gl 69 (bcells (layP a.l i)).toArray))
      case atStart => exact ⟨0, rfl, Nat.zero_le _, rfl, Lib.hid (Only.refl _ _), E1⟩
      case round =>
        clear E1
        obtain ⟨i, rfl, hi, rfl, hO, hBl⟩ := hrel
        have i0 : (0 : Int) ≤ (i : Int) := by omega
        have Bh := Lib.hid (E0.out.only' hO.out hne.out)
        have hgoi := Lib.hid ((hO.out.block go E4.out hglw.out.2.2).trans E2.out)
        by_cases hlt : i < n
        · have hltI : (i : Int) < (n : Int) := by omega
          have hl : i < a.l.length := by rw [hn.out]; exact hlt
          obtain ⟨p1e, p2e⟩ := laid_at a hl
          rw [hL.out] at p1e p2e
          have hm6i : 6 + 2 * i < k := by rw [← hm.out]; omega
          have hm7i : 7 + 2 * i < k := by rw [← hm.out]; omega
          have x1 := HCl.out _ hgoi.out (6 + 2 * i) hm6i
          have x2 := HCl.out _ hgoi.out (7 + 2 * i) hm7i
          rw [p1e] at x1
          rw [p2e] at x2
          have hset := Lib.hid (layP_set a.l hl)
          have hll := Lib.hid (layP_length a.l (Nat.le_of_lt hl))
          have hbb := Lib.hid (bcells_set_both (layP a.l i) (i := i) (by rw [hll.out]; exact hl) (a.l.getD i (0, 0)))
          have hk0 : ((bcells (layP a.l i)).toArray)[i * 2]? = some (.int .i64 ((layP a.l i).getD i (0, 0)).1) := by rw [List.getElem?_toArray]; exact bcells_was _ (by rw [hll.out]; exact hl)
          have hk1 : ((bcells (layP a.l i)).toArray)[i * 2 + 1]? = some (.int .i64 ((layP a.l i).getD i (0, 0)).2) := by rw [List.getElem?_toArray]; exact bcells_now _ (by rw [hll.out]; exact hl)
          have y0 := (hBl.out.cell (i * 2)).trans hk0
          have y1 := (hBl.out.cell (i * 2 + 1)).trans hk1
          have fz0 := hBl.out.frozen (i * 2)
          have fz1 := hBl.out.frozen (i * 2 + 1)
          have hnew : Hid (∀ wq, Blk wq gl 69 (bcells (layP a.l i)).toArray → Blk ((wq.setCell ⟨gl, i * 2, none⟩ (.int .i64 (a.l.getD i (0, 0)).1)).setCell ⟨gl, i * 2 + 1, none⟩ (.int .i64 (a.l.getD i (0, 0)).2)) gl 69 (bcells (layP a.l (i + 1))).toArray) := Lib.hid fun wq hq => by
            have := (hq.set_ (i * 2) (.int .i64 (a.l.getD i (0, 0)).1)).set_ (i * 2 + 1) (.int .i64 (a.l.getD i (0, 0)).2)
            rw [List.setIfInBounds_toArray, List.setIfInBounds_toArray, hbb.out, hset.out] at this
            exact this
          have c5' := Bh.out.cell 5
          unfold acells at c5'
          rw [hn.out] at c5'
          obtain ⟨wi, hwi⟩ : ∃ wi : World, wi = wr := ⟨_, rfl⟩
          rw [← hwi] at c5' ⊢
          have c5 : wi.cell? ⟨g, 5, none⟩ = some (.slice (some ⟨gl, 0, none⟩) n n) := c5'
          rw [← hwi] at x1 x2 y0 y1 fz0 fz1 hBl hO
          clear c5' hwi
          have z1 : (6 : Int) + 2 * (i : Int) < (k : Int) := by omega
          have z2 : (7 : Int) + 2 * (i : Int) < (k : Int) := by omega
          generalize (a.l.getD i (0, 0)).1 = p1 at x1 hnew
          generalize (a.l.getD i (0, 0)).2 = p2 at x2 hnew
          generalize ((layP a.l i).getD i (0, 0)).1 = o1 at y0 
          generalize ((layP a.l i).getD i (0, 0)).2 = o2 at y1
          have hgl1 := hne.out
          have hgl2 := hglw.out.2.2
          clear hl p1e p2e hk0 hk1
          go_upto_region 18 with (fail)
          go_region
          go_wp2
          go_roundg (n + 1 - (i + 1))
          case measure => omega
          case rel => exact ⟨i + 1, rfl, by omega, by go_num, Lib.hid (((hO.out.setCell (.inl rfl) _).setCell (.inl rfl) _).drewN 1), Lib.hid (hnew.out _ hBl.out).drew⟩
        · obtain rfl : n = i := by omega
          have hlast : Hid (layP a.l n = a.l) := Lib.hid (by have := layP_all a.l; rwa [hn.out] at this)
          rw [hlast.out] at hBl
          have HRt := Lib.hid (right_false _ g gl a Bh.out hBl.out hne.out HRw.out HNR.out)
          have hBw : Hid (Below w.heap.size w _) := Lib.hid (E3.out.trans (hO.out.below E3.out.size fun k hk => by rw [hk]; exact hglw.out.1))
          go_wp2_with (first
            | (go_at_call 46; (with_reducible refine (HRt.out).mono ?_); rintro e w9 ⟨rfl, hh⟩; have hb9 := Lib.hid hh; clear hh))
          go_ret2
          exact ⟨rfl, below_next hBw.out hb9.out⟩
end Go.Proofs.Ytccmafmeblojpaa
