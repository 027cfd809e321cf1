/- The reference's Taken: it is true of just the bytes that are an auction's. -/
import Derived.Test.YtccmafmeblojpaaUniq
import Derived.Test.YtccmafmeblojpaaRInt
namespace Go.Proofs.Ytccmafmeblojpaa
open Go.RowKit
set_option linter.unusedVariables false
set_option linter.unusedSimpArgs false
def TkTo (w : World) (s : ByteArray) (e : Ending) (w' : World) : Prop := (∃ b : Bool, e = .returned (.bool b) ∧ (b = true ↔ Taken s)) ∧ Below w.heap.size w w'
theorem tkNo {w w' : World} {s : ByteArray} (h : ¬ Taken s) (hb : Below w.heap.size w w') : TkTo w s (.returned (.bool false)) w' := ⟨⟨false, rfl, ⟨nofun, fun hT => (h hT).elim⟩⟩, hb⟩
theorem tkYes {w w' : World} {s : ByteArray} (h : Taken s) (hb : Below w.heap.size w w') : TkTo w s (.returned (.bool true)) w' := ⟨⟨true, rfl, ⟨fun _ => h, fun _ => rfl⟩⟩, hb⟩
set_option maxHeartbeats 16000000 in
set_option maxRecDepth 100000 in
theorem rtaken_calls (w : World) (s : ByteArray) (hs : s.size ≤ 140737488351232) : Calls Try.prog 35 #[.string s] w (TkTo w s) := by
  have HG := Lib.hid (fun wx (at0 : Nat) ha => rint_calls wx s at0 hs ha)
  have HB0 : Hid (byt s = bytN [] ++ (byt s).drop 0) := Lib.hid rfl
  obtain ⟨i1, hi1, hy0, hy1, hy2⟩ := info_parts info_int
  have HI1 := Lib.hid hi1
  have HY0 := Lib.hid hy0
  have HY1 := Lib.hid hy1
  have HY2 := Lib.hid hy2
  have hsz := Lib.hid hs
  clear hi1 hy0 hy1 hy2 hs
  go_enter Try.func35, Try.ntmps35
  go_wp2
  go_loopg [3, 4] 40 (fun gk s3 s4 wr => ∃ (k : Nat) (L : List Int) (A : Option Addr) (c p : Nat), gk = 40 - k ∧ k ≤ 38 ∧ s4 = .int .i64 (p : Int) ∧ s3 = .slice A k c ∧ Hid (L.length = k) ∧ Hid (p ≤ s.size) ∧ Hid (Mine w wr 1 (.slice A k c) k (icells L)) ∧ Hid (Below w.heap.size w wr) ∧ Hid (byt s = bytN L ++ (byt s).drop p) ∧ Hid (∀ x ∈ L, 0 ≤ x ∧ x ≤ 9007199254740992))
  case atStart => exact ⟨0, [], none, 0, 0, rfl, by omega, rfl, rfl, Lib.hid rfl, Lib.hid (Nat.zero_le _), Lib.hid (Mine.empty _ _ _ _), Lib.hid (Below.refl _ _), HB0, Lib.hid (by simp)⟩
  case round =>
    clear HB0
    obtain ⟨k, L, A, c, p, rfl, hk, rfl, rfl, hLk, hp, hM, hb, hS, hx⟩ := hrel
    have p0 : (0 : Int) ≤ (p : Int) := by omega
    have k0 : (0 : Int) ≤ (k : Int) := by omega
    by_cases hlt : p < s.size
    · have hpI : (p : Int) < (s.size : Int) := by omega
      have HGx := HG.out wr p hp.out
      unfold GetTo at HGx
      cases hrd : rdGo ((byt s).drop p) 0 0 with
      | err er =>
        rw [hrd] at HGx
        simp only at HGx
        have HGy := Lib.hid HGx
        have her := rdGo_err _ _ _ _ hrd
        have HNo := Lib.hid (taken_err hS.out hx.out hlt hrd)
        have herI : ((er : Int) != 0) = true := by simp; omega
        have herN : (er == 0) = false := by simp; omega
        have herN2 : (er != 0) = true := by simp; omega
        clear hrd HGx her hlt
        go_wp2_with (first
          | (go_at_call 47; (refine (HGy.out).mono ?_); rintro e w1 ⟨hh, rfl⟩; have hb1 := Lib.hid (below_next hb.out hh); clear hh))
        go_ret
        exact tkNo HNo.out hb1.out
      | ok v u =>
        rw [hrd] at HGx
        simp only at HGx
        have HGy := Lib.hid HGx
        obtain ⟨u1, u2, u3⟩ := rdGo_used _ _ _ _ _ hrd
        have hon := Lib.hid (read_on hS.out hrd)
        have hp2 : Hid (p + u ≤ s.size) := Lib.hid (by rw [List.length_drop, byt_length] at u2; omega)
        have hx2 : Hid (∀ x ∈ L ++ [(v : Int)], 0 ≤ x ∧ x ≤ 9007199254740992) := Lib.hid fun x hm => by
          rcases List.mem_append.1 hm with hm | hm
          · exact hx.out x hm
          · rw [List.mem_singleton] at hm; omega
        obtain ⟨q, hq⟩ : ∃ q, Hid (p + u = q) := ⟨_, Lib.hid rfl⟩
        rw [hq.out] at HGy hon hp2
        have hlt' := Lib.hid hlt
        clear hrd HGx u1 u2 u3 hlt
        by_cases h38 : 38 ≤ k
        · have h38I : (38 : Int) ≤ (k : Int) := by omega
          have HNo := Lib.hid (taken_many hS.out hx.out hlt'.out (by rw [hLk.out]; exact h38))
          clear h38
          go_wp2_with (first
            | (go_at_call 47; (refine (HGy.out).mono ?_); rintro e w1 ⟨hh, rfl⟩; have hb1 := Lib.hid (below_next hb.out hh); clear hh))
          go_ret
          exact tkNo HNo.out hb1.out
        · have hk38 : k ≤ 37 := by omega
          have hA1 : Hid (k + 1 ≤ maxLen) := Lib.hid (by unfold maxLen; omega)
          have hA2 : Hid ((k + 1) * 8 ≤ 140737488355328) := Lib.hid (by omega)
          have hA3 : Hid (∀ x, ∀ u ∈ [Value.int .i64 x], u.oneCell' = true) := Lib.hid fun x => by simp [Value.oneCell']
          clear h38
          go_wp2_with (first
            | (go_at_call 47; (refine (HGy.out).mono ?_); rintro e w1 ⟨hh, rfl⟩; have hM1 := Lib.hid (hM.out.below hh); have hb1 := Lib.hid (below_next hb.out hh); clear hh)
            | (refine wpList_append_mine rfl (.tmp 32) (.tmp 34) 22 22 rfl 3 i1 (.int .i64 0) 8 Try.underlying22 HI1.out HY0.out HY1.out HY2.out rfl (by decide) rfl (hM1.out.alloc _) (hb1.out.alloc hb1.out.size _) _ 1 [.int .i64 (v : Int)] rfl (src_new Try.underlying22 _ _ _ 1 1 rfl (hA3.out _)) hA1.out hA2.out ?_; intro A2 c2 w2 hm2 hb2; have HM2 := Lib.hid hm2; have HB2 := Lib.hid hb2; clear hm2 hb2))
          go_roundg (40 - (k + 1))
          case measure => omega
          case rel => exact ⟨k + 1, L ++ [(v : Int)], A2, c2, q, rfl, by omega, rfl, rfl, Lib.hid (by rw [List.length_append, hLk.out]; rfl), hp2, Lib.hid (by rw [icells_append]; exact HM2.out), HB2, hon, hx2⟩
    · have hpI : ¬ (p : Int) < (s.size : Int) := by omega
      have hpe : Hid (p = s.size) := Lib.hid (by have := hp.out; omega)
      have hSL : Hid (byt s = bytN L) := Lib.hid (by
        have h := hS.out
        rw [byt_drop_end s (by rw [hpe.out]; exact Nat.le_refl _), List.append_nil] at h
        exact h)
      have HP := Lib.hid (taken_all hSL.out hx.out)
      rw [hLk.out] at HP
      have hk38 := Lib.hid hk
      clear hlt hp hS hk
      by_cases m8 : k < 8
      · have HNo : Hid (¬ Taken s) := Lib.hid fun hT => by
          obtain ⟨n, h1, h2, h3⟩ := HP.out.1 hT
          have h4 := h3.ok.len.1
          rw [(aucOf_laid (by rw [hLk.out]; exact h1) h2).2] at h4
          omega
        have m8I : (k : Int) < 8 := by omega
        clear m8
        go_wp2
        go_ret
        exact tkNo HNo.out hb.out
      have m8I : ¬ (k : Int) < 8 := by omega
      have m8B : decide ((k : Int) < 8) = false := by simpa using m8I
      have t5 : (5 : Int) < (k : Int) := by omega
      obtain ⟨go, oo, rfl, hgo⟩ := hM.out.at1' (by omega)
      have HIR : Hid (IRow wr (some ⟨go, oo, none⟩) L) := Lib.hid hM.out.irow
      have d5 : wr.cell? ⟨go, oo + 5, none⟩ = some (.int .i64 (L.getD 5 0)) := IRow.cell HIR.out (by rw [hLk.out]; omega)
      have hxx : Hid (∀ j, j < k → 0 ≤ L.getD j 0 ∧ L.getD j 0 ≤ 9007199254740992) := Lib.hid fun j hj => hx.out _ (by
        rw [List.getD_eq_getElem?_getD, List.getElem?_eq_getElem (by rw [hLk.out]; exact hj)]; exact List.getElem_mem _)
      obtain ⟨y0, y1⟩ := hxx.out 5 (by omega)
      obtain ⟨x5, hx5⟩ : ∃ x5, Hid (L.getD 5 0 = x5) := ⟨_, Lib.hid rfl⟩
      rw [hx5.out] at d5 y0 y1
      by_cases h16 : 16 < x5
      · have HNo : Hid (¬ Taken s) := Lib.hid fun hT => by
          obtain ⟨n, h1, h2, h3⟩ := HP.out.1 hT
          have h4 := h3.ok.len.2
          rw [(aucOf_laid (by rw [hLk.out]; exact h1) h2).2] at h4
          rw [hx5.out] at h2
          omega
        clear m8 m8I
        go_wp2
        go_ret
        exact tkNo HNo.out hb.out
      have h16' : x5 ≤ 16 := by omega
      by_cases hkn : (k : Int) = 6 + 2 * x5
      case neg =>
        have HNo : Hid (¬ Taken s) := Lib.hid fun hT => by
          obtain ⟨n, h1, h2, h3⟩ := HP.out.1 hT
          rw [hx5.out] at h2
          omega
        have b1 : ((k : Int) != 6 + 2 * x5) = true := by simpa using hkn
        have b2 : ((k : Int) == 6 + 2 * x5) = false := by simpa using hkn
        clear m8 m8I h16 hkn
        go_wp2
        go_ret
        exact tkNo HNo.out hb.out
      obtain ⟨n, rfl⟩ : ∃ n : Nat, x5 = (n : Int) := ⟨x5.toNat, by omega⟩
      have hm : Hid (6 + 2 * n = k) := Lib.hid (by omega)
      have b1 : ((k : Int) != 6 + 2 * (n : Int)) = false := by simp; omega
      have b2 : ((k : Int) == 6 + 2 * (n : Int)) = true := by simp; omega
      obtain ⟨a, hae⟩ : ∃ a, Hid (aucOf L = a) := ⟨_, Lib.hid rfl⟩
      have hal := aucOf_laid (L := L) (n := n) (by rw [hLk.out]; exact hm.out.symm) hx5.out
      have hae2 := aucOf_each (L := L) (n := n) (by rw [hLk.out]; exact hm.out.symm) hx5.out hx.out
      have HP2 : Hid (Taken s ↔ a.Right) := Lib.hid (by
        rw [HP.out, ← hae.out]
        refine ⟨fun ⟨n', h1, h2, h3⟩ => h3, fun h => ⟨n, hm.out.symm, hx5.out, h⟩⟩)
      have HLs : Hid (L.getD 0 0 = a.supply ∧ L.getD 1 0 = a.start ∧ L.getD 2 0 = a.step ∧ L.getD 3 0 = a.round ∧ L.getD 4 0 = a.state) := Lib.hid (by rw [← hae.out]; exact ⟨rfl, rfl, rfl, rfl, rfl⟩)
      rw [hae.out] at hal hae2
      have hL := Lib.hid hal.1
      have hnl := Lib.hid hal.2
      have HEa := Lib.hid hae2
      have hn1 : Hid (1 ≤ n ∧ n ≤ 16) := Lib.hid (by omega)
      have hgol : Hid (go < wr.heap.size) := Lib.hid (by
        obtain ⟨b', o', e, h1, _⟩ := Row.at_ HIR.out (k := 0) (by rw [hLk.out]; omega)
        cases e; exact h1)
      have HCl : Hid (∀ wx : World, wx.heap[go]? = wr.heap[go]? → ∀ j, j < k → wx.cell? ⟨go, oo + j, none⟩ = some (.int .i64 (L.getD j 0))) := Lib.hid fun wx hx j hj => by
        rw [World.cell?_of_block (a := ⟨go, oo + j, none⟩) hx]
        exact IRow.cell HIR.out (by rw [hLk.out]; exact hj)
      have HC6 : Hid (∀ wx : World, wx.heap[go]? = wr.heap[go]? → wx.cell? ⟨go, oo, none⟩ = some (.int .i64 a.supply) ∧ wx.cell? ⟨go, oo + 1, none⟩ = some (.int .i64 a.start) ∧ wx.cell? ⟨go, oo + 2, none⟩ = some (.int .i64 a.step) ∧ wx.cell? ⟨go, oo + 3, none⟩ = some (.int .i64 a.round) ∧ wx.cell? ⟨go, oo + 4, none⟩ = some (.int .i64 a.state)) := Lib.hid fun wx hx => by
        obtain ⟨L0, L1, L2, L3, L4⟩ := HLs.out
        have h := HCl.out wx hx
        exact ⟨by rw [← L0]; exact h 0 (by omega), by rw [← L1]; exact h 1 (by omega), by rw [← L2]; exact h 2 (by omega), by rw [← L3]; exact h 3 (by omega), by rw [← L4]; exact h 4 (by omega)⟩
      obtain ⟨v0, v0'⟩ := hxx.out 0 (by omega)
      obtain ⟨v1, v1'⟩ := hxx.out 1 (by omega)
      obtain ⟨v2, v2'⟩ := hxx.out 2 (by omega)
      obtain ⟨v3, v3'⟩ := hxx.out 3 (by omega)
      obtain ⟨v4, v4'⟩ := hxx.out 4 (by omega)
      rw [HLs.out.1] at v0 v0'
      rw [HLs.out.2.1] at v1 v1'
      rw [HLs.out.2.2.1] at v2 v2'
      rw [HLs.out.2.2.2.1] at v3 v3'
      rw [HLs.out.2.2.2.2] at v4 v4'
      obtain ⟨d0, d1, d2, d3, d4⟩ := HC6.out wr rfl
      have t0 : (0 : Int) < (k : Int) := by omega
      have t1 : (1 : Int) < (k : Int) := by omega
      have t2 : (2 : Int) < (k : Int) := by omega
      have t3 : (3 : Int) < (k : Int) := by omega
      have t4 : (4 : Int) < (k : Int) := by omega
      have t11 : 0 < k := by omega
      clear m8 m8I h16 hkn hal hae2
      go_upto_region 11 with (fail)
      clear b1 b2 d5 m8B
      by_cases z1 : a.supply < 1
      · have HNo : Hid (¬ Taken s) := Lib.hid fun hT => by have := (HP2.out.1 hT).ok.supply; omega
        go_wp2
        go_ret
        exact tkNo HNo.out hb.out
      have z1' : 1 ≤ a.supply := by omega
      by_cases z2 : 1048576 < a.supply
      · have HNo : Hid (¬ Taken s) := Lib.hid fun hT => by have := (HP2.out.1 hT).ok.supply; omega
        clear z1
        go_wp2
        go_ret
        exact tkNo HNo.out hb.out
      have z2' : a.supply ≤ 1048576 := by omega
      by_cases z3 : 1099511627776 < a.start
      · have HNo : Hid (¬ Taken s) := Lib.hid fun hT => by have := (HP2.out.1 hT).ok.start; omega
        clear z1 z2
        go_wp2
        go_ret
        exact tkNo HNo.out hb.out
      have z3' : a.start ≤ 1099511627776 := by omega
      by_cases z4 : a.step < 1
      · have HNo : Hid (¬ Taken s) := Lib.hid fun hT => by have := (HP2.out.1 hT).ok.step; omega
        clear z1 z2 z3
        go_wp2
        go_ret
        exact tkNo HNo.out hb.out
      have z4' : 1 ≤ a.step := by omega
      by_cases z5 : 1099511627776 < a.step
      · have HNo : Hid (¬ Taken s) := Lib.hid fun hT => by have := (HP2.out.1 hT).ok.step; omega
        clear z1 z2 z3 z4
        go_wp2
        go_ret
        exact tkNo HNo.out hb.out
      have z5' : a.step ≤ 1099511627776 := by omega
      by_cases z6 : a.round < 1
      · have HNo : Hid (¬ Taken s) := Lib.hid fun hT => by have := (HP2.out.1 hT).ok.round; omega
        clear z1 z2 z3 z4 z5
        go_wp2
        go_ret
        exact tkNo HNo.out hb.out
      have z6' : 1 ≤ a.round := by omega
      by_cases z7 : 2 < a.state
      · have HNo : Hid (¬ Taken s) := Lib.hid fun hT => by have := (HP2.out.1 hT).ok.state; omega
        clear z1 z2 z3 z4 z5 z6
        go_wp2
        go_ret
        exact tkNo HNo.out hb.out
      have z7' : a.state ≤ 2 := by omega
      clear z1 z2 z3 z4 z5 z6 z7
      have HRw : Hid a.Raw := Lib.hid ⟨⟨z1', z2'⟩, ⟨v1, z3'⟩, ⟨z4', z5'⟩, ⟨v3, v3'⟩, ⟨v4, v4'⟩, by rw [hnl.out]; exact hn1.out, HEa.out⟩
      go_upto_region 13 with (fail)
      have q1 : IntKind.i64.wrap (a.round - 1) = a.round - 1 := by rw [IntKind.wrap_i64]; omega
      have q2 : IntKind.i64.wrap (1099511627776 - a.start) = 1099511627776 - a.start := by rw [IntKind.wrap_i64]; omega
      have q3 : (1099511627776 - a.start).tdiv a.step = (1099511627776 - a.start) / a.step := Int.tdiv_eq_ediv_of_nonneg (by omega)
      have hd0 : 0 ≤ (1099511627776 - a.start) / a.step := Int.ediv_nonneg (by omega) (by omega)
      have hd1 : (1099511627776 - a.start) / a.step ≤ 1099511627776 := Int.le_trans (Int.ediv_le_self _ (by omega)) (by omega)
      have q4 : Hid (IntKind.i64.wrap ((1099511627776 - a.start) / a.step) = (1099511627776 - a.start) / a.step) := Lib.hid (by rw [IntKind.wrap_i64]; omega)
      obtain ⟨d, hd⟩ : ∃ d, Hid ((1099511627776 - a.start) / a.step = d) := ⟨_, Lib.hid rfl⟩
      rw [hd.out] at q3 q4 hd0 hd1
      have q4' := q4.out
      have hspn : ¬ a.step = 0 := by omega
      have hz := Lib.hid (show 1 ≤ a.round ∧ a.state ≤ 2 ∧ 0 ≤ a.state ∧ 1 ≤ a.supply ∧ a.supply ≤ 1048576 from ⟨z6', z7', v4, z1', z2'⟩)
      have hst9 := Lib.hid (show 1 ≤ a.step ∧ a.step ≤ 1099511627776 ∧ 0 ≤ a.start ∧ a.start ≤ 1099511627776 from ⟨z4', z5', v1, z3'⟩)
      have hvr := Lib.hid (show 0 ≤ a.round ∧ a.round ≤ 9007199254740992 from ⟨v3, v3'⟩)
      clear v0 v0' v1 v1' v2 v2' v3 v3' v4 v4' z1' z2' z3' z4' z5' z6' z7' y0 y1 h16' hd0 hd1
      by_cases hbd : d < a.round - 1
      · have HNo : Hid (¬ Taken s) := Lib.hid fun hT => by
          have h1 := right_div (HP2.out.1 hT).ok
          rw [hd.out] at h1
          omega
        go_quiet (fail)
        go_wp2
        go_ret
        exact tkNo HNo.out (below_draw hb.out _)
      have hbB : decide (d < a.round - 1) = false := by simpa using hbd
      have HOk : Hid ((∀ p ∈ a.l, okPair a.round p) → a.Ok) := Lib.hid fun h4 => raw_ok HRw.out hz.out.1 (by rw [hd.out]; omega) hz.out.2.1 h4
      have hpmb : 0 ≤ (a.round - 1) * a.step ∧ a.start + (a.round - 1) * a.step ≤ 1099511627776 := by
        have h1 := hz.out.1
        have h2 := hst9.out
        refine ⟨Int.mul_nonneg (by omega) (by omega), ?_⟩
        have h3 : a.round - 1 ≤ (1099511627776 - a.start) / a.step := by rw [hd.out]; omega
        rw [Int.le_ediv_iff_mul_le (by omega)] at h3
        omega
      obtain ⟨pm, hpm⟩ : ∃ pm, Hid ((a.round - 1) * a.step = pm) := ⟨_, Lib.hid rfl⟩
      have hpmi := hpm.out
      rw [hpm.out] at hpmb
      obtain ⟨pm0, pm1⟩ := hpmb
      have hpm2 : pm ≤ 1099511627776 := by have := hst9.out; omega
      have q6 : IntKind.i64.wrap ((a.round - 1) * a.step) = pm := by rw [hpmi, IntKind.wrap_i64]; omega
      have q7 : wrap64 ((a.round - 1) * a.step) = pm := by rw [hpmi]; unfold wrap64; omega
      have q8 : IntKind.i64.wrap (a.start + pm) = a.start + pm := by rw [IntKind.wrap_i64]; have := hst9.out; omega
      have hpr : Hid (a.price = a.start + pm) := Lib.hid (by unfold Auc.price; rw [hpmi])
      clear hbd hpmi
      go_quiet (fail)
      go_upto_region 15 with (fail)
      go_quiet (fail)
      go_upto_region 16 with (fail)
      clear q1 q2 q3 q4' q6 q7 hbB d0 d1 d2 d3 d4
      generalize hwq : World.drewN _ _ = wq
      have hgq : Hid (wq.heap[go]? = wr.heap[go]?) := Lib.hid (by rw [← hwq]; rfl)
      have hbq : Hid (Below w.heap.size w wq) := Lib.hid (by rw [← hwq]; first | exact below_draw hb.out _ | exact below_draw (below_draw hb.out _) _)
      clear hwq
      obtain ⟨pr, hpre⟩ : ∃ pr, Hid (a.start + pm = pr) := ⟨_, Lib.hid rfl⟩
      rw [hpre.out] at hpr q8 pm1 ⊢
      obtain ⟨hv, hhv⟩ : ∃ hv, wr.heap[go]? = hv := ⟨_, rfl⟩
      rw [hhv] at HCl HC6 hgq
      clear hhv
      go_wp2
      go_loopg [9, 10, 11] (n + 1) (fun gk s9 s10 s11 wy => ∃ j t : Nat, gk = n + 1 - j ∧ j ≤ n ∧ s11 = .int .i64 (t : Int) ∧ s9 = .int .i64 (wasn (a.l.take j)) ∧ s10 = .int .i64 (Auc.nows (a.l.take j)) ∧ Hid (t = 6 + 2 * j) ∧ Hid (∀ p ∈ a.l.take j, okPair a.round p) ∧ Hid (wy.heap[go]? = hv) ∧ Hid (Below w.heap.size w wy))
      case atStart => exact ⟨0, 6, rfl, Nat.zero_le _, rfl, rfl, rfl, Lib.hid rfl, Lib.hid (by simp), hgq, hbq⟩
      case round =>
        clear hgq hbq
        obtain ⟨j, t, rfl, hj, rfl, rfl, rfl, ht, hok, hgo2, hb2⟩ := hrel
        have tt0 : (0 : Int) ≤ (t : Int) := by omega
        have hk38' := hk38.out
        obtain ⟨d0, d1, d2, d3, d4⟩ := HC6.out _ hgo2.out
        have hz1 := hz.out.1
        by_cases hlt : j < n
        · have hl : j < a.l.length := by rw [hnl.out]; exact hlt
          obtain ⟨p1e, p2e⟩ := laid_at a hl
          rw [hL.out] at p1e p2e
          have htk : t < k := by have := ht.out; have := hm.out; omega
          have htk1 : t + 1 < k := by have := ht.out; have := hm.out; omega
          have htkI : (t : Int) < (k : Int) := by omega
          have htk1I : (t : Int) + 1 < (k : Int) := by omega
          have x1 := HCl.out _ hgo2.out t htk
          have x2 := HCl.out _ hgo2.out (t + 1) htk1
          rw [show 6 + 2 * j = t from ht.out.symm] at p1e
          rw [show 7 + 2 * j = t + 1 from by have := ht.out; omega] at p2e
          rw [p1e] at x1
          rw [p2e] at x2
          have x3 : _ := x2
          rw [show oo + (t + 1) = oo + t + 1 from (Nat.add_assoc oo t 1).symm] at x3
          have hmem : a.l.getD j (0, 0) ∈ a.l := by rw [List.getD_eq_getElem?_getD, List.getElem?_eq_getElem hl]; exact List.getElem_mem hl
          obtain ⟨u0, u1, u2, u3⟩ := HEa.out _ hmem
          have hs1 : Hid (wasn (a.l.take (j + 1)) = wasn (a.l.take j) + (a.l.getD j (0, 0)).1) := Lib.hid (by
            unfold wasn
            rw [List.take_add_one, List.map_append, List.sum_append, List.getD_eq_getElem?_getD, List.getElem?_eq_getElem hl]; simp)
          have hs2 : Hid (Auc.nows (a.l.take (j + 1)) = Auc.nows (a.l.take j) + (a.l.getD j (0, 0)).2) := Lib.hid (by
            rw [List.take_add_one, Auc.nows_append, List.getD_eq_getElem?_getD, List.getElem?_eq_getElem hl]; simp [Auc.nows])
          have htke : Hid (a.l.take (j + 1) = a.l.take j ++ [a.l.getD j (0, 0)]) := Lib.hid (by rw [List.take_add_one, List.getD_eq_getElem?_getD, List.getElem?_eq_getElem hl]; rfl)
          have hbnd : ∀ p ∈ a.l.take j, 0 ≤ p.1 ∧ p.1 ≤ 1048576 ∧ 0 ≤ p.2 ∧ p.2 ≤ 1048576 := fun p hp => by
            have h1 := HEa.out p (List.mem_of_mem_take hp)
            have h2 := hok.out p hp
            exact ⟨h1.1, h2.1, h1.2.2.1, h2.2.1⟩
          obtain ⟨w0', w1'⟩ := wasn_bound hbnd
          obtain ⟨w2', w3'⟩ := Auc.nows_bound hbnd
          have hlen : ((a.l.take j).length : Int) ≤ 16 := by rw [List.length_take]; have := hn1.out; omega
          have w4' : wasn (a.l.take j) ≤ 16777216 := by omega
          have w5' : Auc.nows (a.l.take j) ≤ 16777216 := by omega
          have HBadP : Hid (¬ okPair a.round (a.l.getD j (0, 0)) → ¬ Taken s) := Lib.hid fun hno hT => by
            have hR := HP2.out.1 hT
            have h1 := hR.ok.each _ hmem
            exact hno ⟨h1.2.1, h1.2.2.2, fun h => hR.fair.first h _ hmem, fun h => hR.fair.fall h _ hmem⟩
          have hstep : Hid (okPair a.round (a.l.getD j (0, 0)) → ∀ q ∈ a.l.take (j + 1), okPair a.round q) := Lib.hid fun hq q hqm => by
            rw [htke.out, List.mem_append, List.mem_singleton] at hqm
            rcases hqm with hqm | rfl
            · exact hok.out q hqm
            · exact hq
          generalize a.l.getD j (0, 0) = p at x1 x2 x3 hs1 hs2 u0 u1 u2 u3 HBadP hstep
          obtain ⟨p1, p2⟩ := p
          simp only at x1 x2 x3 hs1 hs2 u0 u1 u2 u3
          have htn : Hid (t + 2 = 6 + 2 * (j + 1)) := Lib.hid (by have := ht.out; omega)
          clear hl p1e p2e hmem hbnd w1' w3' hlen htk htk1
          go_upto_region 20 with (fail)
          go_quiet (fail)
          go_upto_region 21 with (fail)
          generalize hwz : World.drewN _ _ = wz
          obtain ⟨e0, e1, e2, e3, e4⟩ := HC6.out wz (by rw [← hwz]; exact hgo2.out)
          have hgz : Hid (wz.heap[go]? = hv) := Lib.hid (by rw [← hwz]; exact hgo2.out)
          have hbz : Hid (Below w.heap.size w wz) := Lib.hid (by rw [← hwz]; exact below_draw hb2.out _)
          clear d0 d1 d2 d3 d4 x1 x2 x3 hwz
          by_cases r1 : 1048576 < p1
          · have HNo := Lib.hid (HBadP.out fun h => by have := h.1; simp only at this; omega)
            go_wp2
            go_ret
            exact tkNo HNo.out hbz.out
          have r1' : p1 ≤ 1048576 := by omega
          by_cases r2 : 1048576 < p2
          · have HNo := Lib.hid (HBadP.out fun h => by have := h.2.1; simp only at this; omega)
            clear r1
            go_wp2
            go_ret
            exact tkNo HNo.out hbz.out
          have r2' : p2 ≤ 1048576 := by omega
          clear r1 r2
          by_cases hr1 : a.round = 1
          · rw [hr1] at e3
            by_cases r3 : p1 = 0
            · subst r3
              have hq := Lib.hid (hstep.out ⟨r1', r2', fun _ => rfl, fun h => by omega⟩)
              clear hr1 hz1
              go_wp2
              go_roundg (n + 1 - (j + 1))
              case measure => omega
              case rel => exact ⟨j + 1, t + 2, rfl, by omega, by first | rfl | go_num, by rw [hs1.out]; simp, by rw [hs2.out], htn, hq, hgz, hbz⟩
            · have HNo := Lib.hid (HBadP.out fun h => r3 (h.2.2.1 hr1))
              have r3B : (p1 != 0) = true := by simpa using r3
              have r3B2 : (p1 == 0) = false := by simpa using r3
              clear hr1 hz1 r3
              go_wp2
              go_ret
              exact tkNo HNo.out hbz.out
          · have hr2 : 1 < a.round := by omega
            have hrB : (a.round == 1) = false := by simpa using hr1
            by_cases r3 : p1 < p2
            · have HNo := Lib.hid (HBadP.out fun h => by have := h.2.2.2 hr2; simp only at this; omega)
              clear hr1 hz1
              go_wp2
              go_ret
              exact tkNo HNo.out hbz.out
            · have r3' : p2 ≤ p1 := by omega
              have hq := Lib.hid (hstep.out ⟨r1', r2', fun h => (hr1 h).elim, fun _ => r3'⟩)
              clear hr1 hz1 r3
              go_wp2
              go_roundg (n + 1 - (j + 1))
              case measure => omega
              case rel => exact ⟨j + 1, t + 2, rfl, by omega, by first | rfl | go_num, by rw [hs1.out], by rw [hs2.out], htn, hq, hgz, hbz⟩
        · obtain rfl : n = j := by omega
          have htkI : ¬ (t : Int) < (k : Int) := by have := ht.out; have := hm.out; omega
          have htke : Hid (a.l.take n = a.l) := Lib.hid (List.take_of_length_le (by rw [hnl.out]; exact Nat.le_refl _))
          rw [htke.out] at hok ⊢
          have HO := Lib.hid (HOk.out hok.out)
          obtain ⟨ws, hws⟩ : ∃ ws, Hid (wasn a.l = ws) := ⟨_, Lib.hid rfl⟩
          obtain ⟨dm, hdm⟩ : ∃ dm, Hid (Auc.nows a.l = dm) := ⟨_, Lib.hid rfl⟩
          rw [hws.out, hdm.out]
          have hwse : Hid (Auc.wases a.l = ws) := Lib.hid (by rw [← hws.out]; rfl)
          have hdme : Hid (a.demand = dm) := Lib.hid (by rw [← hdm.out]; rfl)
          have HIff : Hid (Taken s ↔ (1 < a.round → a.supply < ws) ∧ (a.state = 1 → dm ≤ a.supply) ∧ (a.state = 2 → a.supply < dm ∧ 1099511627776 - a.step < pr)) := Lib.hid (by
            rw [HP2.out]
            constructor
            · intro h
              refine ⟨fun hr => by rw [← hwse.out]; exact h.fair.more hr, fun hs => by rw [← hdme.out]; exact h.fair.sold hs, fun hs => ?_⟩
              have := h.void hs
              rw [hdme.out, hpr.out] at this
              exact this
            · rintro ⟨h1, h2, h3⟩
              exact ⟨HO.out, ⟨fun hr p hp => (hok.out p hp).2.2.1 hr, fun hr p hp => (hok.out p hp).2.2.2 hr, fun hr => by rw [hwse.out]; exact h1 hr, fun hs => by rw [hdme.out]; exact h2 hs⟩, fun hs => by rw [hdme.out, hpr.out]; exact h3 hs⟩)
          have q5 : IntKind.i64.wrap (1099511627776 - a.step) = 1099511627776 - a.step := by rw [IntKind.wrap_i64]; have := hst9.out; omega
          have hst3 : a.state = 0 ∨ a.state = 1 ∨ a.state = 2 := by have := hz.out; omega
          clear hlt
          by_cases h1 : a.round = 1
          · have hmw : Hid (1 < a.round → a.supply < ws) := Lib.hid fun h => by omega
            rw [h1] at d3
            clear h1 hz1
            rcases hst3 with hs | hs | hs
            · have HY := Lib.hid (HIff.out.2 ⟨hmw.out, fun h => by omega, fun h => by omega⟩)
              rw [hs] at d4
              clear hs
              go_wp2
              go_ret
              exact tkYes HY.out hb2.out
            · by_cases e1 : a.supply < dm
              · have HNo : Hid (¬ Taken s) := Lib.hid fun hT => by have := (HIff.out.1 hT).2.1 hs; omega
                rw [hs] at d4
                clear hs
                go_wp2
                go_ret
                exact tkNo HNo.out hb2.out
              · have HY := Lib.hid (HIff.out.2 ⟨hmw.out, fun _ => by omega, fun h => by omega⟩)
                have e1B : decide (a.supply < dm) = false := by simpa using e1
                rw [hs] at d4
                clear hs e1
                go_wp2
                go_ret
                exact tkYes HY.out hb2.out
            · by_cases e1 : a.supply < dm
              · by_cases e2 : 1099511627776 - a.step < pr
                · have HY := Lib.hid (HIff.out.2 ⟨hmw.out, fun h => by omega, fun _ => ⟨e1, e2⟩⟩)
                  rw [hs] at d4
                  clear hs
                  go_wp2
                  go_ret
                  exact tkYes HY.out hb2.out
                · have HNo : Hid (¬ Taken s) := Lib.hid fun hT => e2 ((HIff.out.1 hT).2.2 hs).2
                  have e2B : decide (1099511627776 - a.step < pr) = false := by simpa using e2
                  rw [hs] at d4
                  clear hs e2
                  go_wp2
                  go_ret
                  exact tkNo HNo.out hb2.out
              · have HNo : Hid (¬ Taken s) := Lib.hid fun hT => e1 ((HIff.out.1 hT).2.2 hs).1
                have e1B : decide (a.supply < dm) = false := by simpa using e1
                rw [hs] at d4
                clear hs e1
                go_wp2
                go_ret
                exact tkNo HNo.out hb2.out
          · have hr1 : 1 < a.round := by omega
            by_cases hsw : ws ≤ a.supply
            · have HNo : Hid (¬ Taken s) := Lib.hid fun hT => by have := (HIff.out.1 hT).1 hr1; omega
              clear h1 hz1
              go_wp2
              go_ret
              exact tkNo HNo.out hb2.out
            · have hmw : Hid (1 < a.round → a.supply < ws) := Lib.hid fun h => by omega
              have hswB : decide (ws ≤ a.supply) = false := by simpa using hsw
              clear h1 hz1 hsw
              rcases hst3 with hs | hs | hs
              · have HY := Lib.hid (HIff.out.2 ⟨hmw.out, fun h => by omega, fun h => by omega⟩)
                rw [hs] at d4
                clear hs
                go_wp2
                go_ret
                exact tkYes HY.out hb2.out
              · by_cases e1 : a.supply < dm
                · have HNo : Hid (¬ Taken s) := Lib.hid fun hT => by have := (HIff.out.1 hT).2.1 hs; omega
                  rw [hs] at d4
                  clear hs
                  go_wp2
                  go_ret
                  exact tkNo HNo.out hb2.out
                · have HY := Lib.hid (HIff.out.2 ⟨hmw.out, fun _ => by omega, fun h => by omega⟩)
                  have e1B : decide (a.supply < dm) = false := by simpa using e1
                  rw [hs] at d4
                  clear hs e1
                  go_wp2
                  go_ret
                  exact tkYes HY.out hb2.out
              · by_cases e1 : a.supply < dm
                · by_cases e2 : 1099511627776 - a.step < pr
                  · have HY := Lib.hid (HIff.out.2 ⟨hmw.out, fun h => by omega, fun _ => ⟨e1, e2⟩⟩)
                    rw [hs] at d4
                    clear hs
                    go_wp2
                    go_ret
                    exact tkYes HY.out hb2.out
                  · have HNo : Hid (¬ Taken s) := Lib.hid fun hT => e2 ((HIff.out.1 hT).2.2 hs).2
                    have e2B : decide (1099511627776 - a.step < pr) = false := by simpa using e2
                    rw [hs] at d4
                    clear hs e2
                    go_wp2
                    go_ret
                    exact tkNo HNo.out hb2.out
                · have HNo : Hid (¬ Taken s) := Lib.hid fun hT => e1 ((HIff.out.1 hT).2.2 hs).1
                  have e1B : decide (a.supply < dm) = false := by simpa using e1
                  rw [hs] at d4
                  clear hs e1
                  go_wp2
                  go_ret
                  exact tkNo HNo.out hb2.out
end Go.Proofs.Ytccmafmeblojpaa
