/- The walk of the reference's Sum: five loops; its answer is the sum of the text. -/
import Derived.Test.YtblgldllfllcpaaRSumP
import Derived.Test.YtblgldllfllcpaaSSum
import Derived.Test.YtblgldllfllcpaaOwnK
import Derived.Outline
namespace Go.Proofs.Ytblgldllfllcpaa
open Go.RowKit
theorem K_lt (k : Nat) : Sp.K.getD k 0 < 4294967296 := by
  by_cases h : k < 64
  · have : ∀ k, k < 64 → Sp.K.getD k 0 < 4294967296 := by decide
    exact this k h
  · rw [List.getD_eq_getElem?_getD, List.getElem?_eq_none (by show 64 ≤ k; omega)]; simp
theorem pw_drew {B : Nat} {w w1 : World} {n : Nat} (h : Below B w w1) : Below B w (w1.drewN n) := ⟨h.os, h.tape, h.output, h.size, h.block⟩
set_option maxHeartbeats 8000000 in
set_option maxRecDepth 100000 in
theorem rsum_calls (s : ByteArray) (w : World) (hsz : s.size ≤ 1099511627776) :
    Calls Try.prog 11 #[.string s] w fun e w' => e = .returned (.string (dig s)) ∧ Below w.heap.size w w' := by
  have HSZ := Lib.hid hsz
  clear hsz
  obtain ⟨T, hT⟩ : ∃ T, Hid (Sp.pad (bts s) = T) := ⟨_, Lib.hid rfl⟩
  have hT64 : Hid (T.length % 64 = 0) := Lib.hid (by rw [← hT.out]; exact Sp.pad_mod _)
  have hT0 : Hid (0 < T.length) := Lib.hid (by rw [← hT.out, Sp.pad_length]; omega)
  have hTb : Hid (T.length < 1099511628000) := Lib.hid (by rw [← hT.out, Sp.pad_length, bts_length]; have := HSZ.out; unfold Sp.noughts; omega)
  have hTl : Hid (∀ x ∈ T, x < 256) := Lib.hid (by rw [← hT.out]; exact Sp.pad_lt _ (bts_lt s))
  have P := fun w => padded_calls s w HSZ.out
  rw [hT.out] at P
  have HP := Lib.hid P
  clear P
  obtain ⟨i1, hi1, hy0, hy1, hy2⟩ := info_parts info_int
  have HI1 := Lib.hid hi1
  have HY0 := Lib.hid hy0
  have HY1 := Lib.hid hy1
  have HY2 := Lib.hid hy2
  clear hi1 hy0 hy1 hy2
  go_enter Try.func11, Try.ntmps11
  go_wp2_with (first
    | (go_at_call 18; (with_reducible refine (words_calls _).mono ?_); rintro e w1 ⟨rfl, rfl⟩)
    | (go_at_call 19; (with_reducible refine (HP.out _).mono ?_); rintro e w2 ⟨A, c, n, rfl, hn0, hl, hb⟩; have hn := Lib.hid hn0; clear hn0))
  have hnpos : 0 < n := by have := hn.out; have := hT0.out; have := hT64.out; omega
  obtain ⟨pb, po, rfl, hrs⟩ : ∃ pb po, A = some ⟨pb, po, none⟩ ∧ RS w w2 pb po n (Sp.wordsUp T n) Sp.H0 := by
    obtain ⟨b, how, hbg⟩ := hl
    obtain ⟨A', c', heq, _, _, hr⟩ := how.row
    cases heq
    have hb2 : Below w.heap.size w w2 := (((Below.refl _ _).alloc (Nat.le_refl _) _).alloc (by simp) _).trans (hb.mono (by simp; omega))
    rcases hr with h0 | ⟨pb, po, h1, h2, h3⟩
    · omega
    · have hpbg : w.heap.size < pb := by
        obtain ⟨_, A2, c2, heq, _, _, ⟨_, h5⟩ | ⟨g, off, h4, h5, h6, _⟩⟩ := how
        · cases heq; omega
        · cases heq
          rw [h1] at h5; cases h5
          have := hbg _ h4
          simp at this
          omega
      refine ⟨pb, po, h1, hb2, ?_, ?_, hpbg, h2, fun j hj => ?_⟩
      · exact ((Blk.new w _ _).alloc _).below hb (by simp; omega)
      · have := Blk.new (w.alloc (.cells (i64c Sp.H0.list).toArray 3)) 3 (i64c Sp.K).toArray
        have h4 := this.below (w' := w2) hb (by simp)
        simpa using h4
      · rw [h3 j (by omega)]
        exact congrArg some (i64c_at _ (by rw [Sp.wordsUp_length]; exact hj))
  have hRS := Lib.hid hrs
  clear hrs hl hb
  obtain ⟨N, hN⟩ : ∃ N, Hid (N = T.length / 64) := ⟨_, Lib.hid rfl⟩
  have hnN : n = 16 * N := by have := hn.out; have := hT64.out; have := hN.out; omega
  have hNb : Hid (N < 17179869190) := Lib.hid (by have := hTb.out; have := hN.out; omega)
  clear hn hnpos
  have HnN := Lib.hid hnN
  clear hnN
  go_loopg [6] (N + 1) (fun gk s6 wr => ∃ q, gk = N + 1 - q ∧ q ≤ N ∧ s6 = .int .i64 ((16 * q : Nat) : Int) ∧ Hid (RS w wr pb po n (Sp.wordsUp T n) (Sp.blocks Sp.H0 T q)))
  case atStart => exact ⟨0, rfl, Nat.zero_le _, rfl, hRS⟩
  case round =>
    clear hRS
    obtain ⟨q, rfl, hq, rfl, hRS⟩ := hrel
    obtain ⟨at_, hat⟩ : ∃ at_, 16 * q = at_ := ⟨_, rfl⟩
    rw [hat]
    have HAT := Lib.hid hat
    obtain ⟨st, hst⟩ : ∃ st, Hid (Sp.blocks Sp.H0 T q = st) := ⟨_, Lib.hid rfl⟩
    have hok : Hid st.ok := Lib.hid (by rw [← hst.out]; exact Sp.blocks_ok Sp.H0_ok _ _)
    rw [hst.out] at hRS
    by_cases hlt : q < N
    · have hatn : at_ < n := by have := HnN.out; omega
      clear hat
      obtain ⟨X, hX⟩ : ∃ X, Hid (Sp.blk16 T q = X) := ⟨_, Lib.hid rfl⟩
      have hXl : Hid (X.length = 16) := Lib.hid (by rw [← hX.out]; exact Sp.blk16_length _ _)
      have hXlt : Hid (Sp.allLt X) := Lib.hid (by rw [← hX.out]; exact Sp.blk16_lt hTl.out _)
      go_wp2
      obtain ⟨wo, rfl⟩ : ∃ x, x = wr := ⟨_, rfl⟩
      go_loopg [7, 8] 65 (fun gk s7 s8 wr => ∃ i A c, gk = 65 - i ∧ i ≤ 64 ∧ s8 = .int .i64 (i : Int) ∧ s7 = .slice A i c ∧ Hid (Mine wo wr 1 (.slice A i c) i (i64c (Sp.sch X i))) ∧ Hid (Below wo.heap.size wo wr))
      case atStart => exact ⟨0, none, 0, rfl, Nat.zero_le _, rfl, rfl, Lib.hid (Mine.empty _ _ _ _), Lib.hid (Below.refl _ _)⟩
      case round =>
        obtain ⟨i, A, c, rfl, hi, rfl, rfl, hm, hb⟩ := hrel
        have ii : (0 : Int) ≤ (i : Int) := by omega
        by_cases hi64 : i < 64
        · have i64 : (i : Int) < 64 := by omega
          by_cases hi16 : i < 16
          · have i16 : (i : Int) < 16 := by omega
            obtain ⟨m, hm1⟩ : ∃ m : Nat, (at_ : Int) + (i : Int) = (m : Int) := ⟨at_ + i, by omega⟩
            have hm2 : Hid (m = at_ + i) := Lib.hid (by omega)
            have cm : wr.cell? ⟨pb, po + m, none⟩ = some (.int .i64 ((X.getD i 0 : Nat) : Int)) := by
              obtain ⟨_, _, _, _, h5, h6⟩ := hRS.out
              have e1 := HAT.out
              have e2 := hm2.out
              have e3 := HnN.out
              rw [below_cell hb.out h5, h6 m (by omega), show m = 16 * q + i from by omega, Sp.wordsUp_at T hi16 (by omega), hX.out]
            have hsc : Hid (Sp.sch X (i + 1) = Sp.sch X i ++ [X.getD i 0]) := Lib.hid (Sp.sch_lo hXl.out hi16)
            generalize X.getD i 0 = x at cm hsc
            have m0 : (0 : Int) ≤ (m : Int) := by omega
            have mn : (m : Int) < (n : Int) := by have := HAT.out; have := HnN.out; omega
            have wm : IntKind.i64.wrap (m : Int) = (m : Int) := by rw [IntKind.wrap_i64]; have := hNb.out; have := HnN.out; omega
            go_wp2_with (first
              | (refine wpList_append_mine rfl (.tmp 45) (.tmp 52) 42 42 rfl 3 i1 (.int .i64 0) 8 Try.underlying42 HI1.out HY0.out HY1.out HY2.out rfl (by decide) rfl (hm.out.alloc _) (hb.out.alloc hb.out.size _) _ 1 [.int .i64 (x : Int)] rfl (src_new Try.underlying42 _ _ [.int .i64 (x : Int)] 1 1 rfl (by simp [Value.oneCell'])) (by unfold maxLen; omega) (by omega) ?_; intro A3 c3 w3 hm3 hb3))
            all_goals
              go_roundg (65 - (i + 1))
              case measure => omega
              case rel => exact ⟨i + 1, A3, c3, rfl, by omega, by go_num, rfl, Lib.hid (by rw [hsc.out, i64c_append]; exact hm3), Lib.hid hb3⟩
          · have i16 : (16 : Int) ≤ (i : Int) := by omega
            obtain ⟨L, hL⟩ : ∃ L, Hid (Sp.sch X i = L) := ⟨_, Lib.hid rfl⟩
            have hLl : Hid (L.length = i) := Lib.hid (by rw [← hL.out]; exact Sp.sch_length hXl.out i)
            have hLt : Hid (Sp.allLt L) := Lib.hid (by rw [← hL.out]; exact Sp.sch_lt hXlt.out i)
            have hsc : Hid (Sp.sch X (i + 1) = L ++ [Sp.next L]) := Lib.hid (by rw [Sp.sch_hi hXl.out (by omega), hL.out])
            rw [hL.out] at hm
            obtain ⟨wb, wf, rfl, hcells⟩ : ∃ wb wf, A = some ⟨wb, wf, none⟩ ∧ ∀ j, j < i → wr.cell? ⟨wb, wf + j, none⟩ = some (.int .i64 ((L.getD j 0 : Nat) : Int)) := by
              obtain ⟨A', c', heq, _, _, hr⟩ := hm.out.row
              cases heq
              rcases hr with h0 | ⟨wb, wf, h1, h2, h3⟩
              · omega
              · refine ⟨wb, wf, h1, fun j hj => ?_⟩
                rw [h3 j (by omega)]
                exact congrArg some (i64c_at _ (by have := hLl.out; omega))
            have g15 := hcells (i - 15) (by omega)
            have g2 := hcells (i - 2) (by omega)
            have g16 := hcells (i - 16) (by omega)
            have g7 := hcells (i - 7) (by omega)
            have x15 := getD_lt hLt.out (i - 15)
            have x2 := getD_lt hLt.out (i - 2)
            have x16 := getD_lt hLt.out (i - 16)
            have x7 := getD_lt hLt.out (i - 7)
            have HX : Hid ((L.getD (i - 16) 0 + Sp.s0 (L.getD (i - 15) 0) + L.getD (i - 7) 0 + Sp.s1 (L.getD (i - 2) 0)) % 4294967296 = Sp.next L) := Lib.hid (by
              unfold Sp.next; rw [hLl.out])
            generalize L.getD (i - 16) 0 = y16 at *
            generalize L.getD (i - 15) 0 = y15 at *
            generalize L.getD (i - 7) 0 = y7 at *
            generalize L.getD (i - 2) 0 = y2 at *
            clear hcells
            have q15 : IntKind.i64.wrap ((i : Int) - 15) = (i : Int) - 15 := by rw [IntKind.wrap_i64]; omega
            have q2 : IntKind.i64.wrap ((i : Int) - 2) = (i : Int) - 2 := by rw [IntKind.wrap_i64]; omega
            have t15 : ((i : Int) - 15).toNat = i - 15 := by omega
            have t2 : ((i : Int) - 2).toNat = i - 2 := by omega
            have p15 : 0 ≤ (i : Int) - 15 := by omega
            have p2 : 0 ≤ (i : Int) - 2 := by omega
            have l15 : (i : Int) - 15 < (i : Int) := by omega
            have l2 : (i : Int) - 2 < (i : Int) := by omega
            go_upto_region 13 with (fail)
            go_quiet (fail)
            clear q15 q2 t15 t2 p15 p2 l15 l2
            go_upto_region 16 with (first | (go_at_call 20; (first | with_reducible refine (turn7_calls _ _ x15).mono ?_ | with_reducible refine (turn18_calls _ _ x15).mono ?_ | with_reducible refine (turn17_calls _ _ x2).mono ?_ | with_reducible refine (turn19_calls _ _ x2).mono ?_); rintro e w' ⟨rfl, dd, rfl⟩))
            rw [p_eq _ x15, q_eq _ x2]
            have xp := Sp.s0_lt x15
            have xq := Sp.s1_lt x2
            generalize Sp.s0 y15 = yp at *
            generalize Sp.s1 y2 = yq at *
            generalize hw2 : World.drewN _ _ = w2
            have hm2 : Hid (Mine wo w2 1 (.slice (some ⟨wb, wf, none⟩) i c) i (i64c L)) := Lib.hid (by rw [← hw2]; exact hm.out)
            have hb2 : Hid (Below wo.heap.size wo w2) := Lib.hid (by rw [← hw2]; repeat (first | exact hb.out | apply pw_drew))
            replace g16 : w2.cell? ⟨wb, wf + (i - 16), none⟩ = some (.int .i64 ((y16 : Nat) : Int)) := by rw [← hw2]; exact g16
            replace g7 : w2.cell? ⟨wb, wf + (i - 7), none⟩ = some (.int .i64 ((y7 : Nat) : Int)) := by rw [← hw2]; exact g7
            clear g15 g2 hw2 hm hb
            have HW : Hid (∀ w', Below w2.heap.size w2 w' → w'.cell? ⟨wb, wf + (i - 16), none⟩ = some (.int .i64 ((y16 : Nat) : Int)) ∧ w'.cell? ⟨wb, wf + (i - 7), none⟩ = some (.int .i64 ((y7 : Nat) : Int))) := Lib.hid fun w' hb' => by
              have hl := World.block_lt_of_cell? w2 _ g16
              exact ⟨(hb'.cell (p := ⟨wb, wf + (i - 16), none⟩) hl).trans g16, (hb'.cell (p := ⟨wb, wf + (i - 7), none⟩) hl).trans g7⟩
            have E : Hid (((y16 : Int) + (yp : Int) + (y7 : Int) + (yq : Int)) % 4294967296 = ((Sp.next L : Nat) : Int)) := Lib.hid (by rw [← HX.out]; omega)
            have q16 : IntKind.i64.wrap ((i : Int) - 16) = (i : Int) - 16 := by rw [IntKind.wrap_i64]; omega
            have q7 : IntKind.i64.wrap ((i : Int) - 7) = (i : Int) - 7 := by rw [IntKind.wrap_i64]; omega
            have t16 : ((i : Int) - 16).toNat = i - 16 := by omega
            have t7 : ((i : Int) - 7).toNat = i - 7 := by omega
            have p16 : 0 ≤ (i : Int) - 16 := by omega
            have p7 : 0 ≤ (i : Int) - 7 := by omega
            have l16 : (i : Int) - 16 < (i : Int) := by omega
            have l7 : (i : Int) - 7 < (i : Int) := by omega
            have i7 : (7 : Int) ≤ (i : Int) := by omega
            have z1 : IntKind.i64.wrap ((y16 : Int) + (yp : Int)) = (y16 : Int) + (yp : Int) := by rw [IntKind.wrap_i64]; omega
            have z2 : IntKind.i64.wrap ((y16 : Int) + (yp : Int) + (y7 : Int)) = (y16 : Int) + (yp : Int) + (y7 : Int) := by rw [IntKind.wrap_i64]; omega
            have z3 : IntKind.i64.wrap ((y16 : Int) + (yp : Int) + (y7 : Int) + (yq : Int)) = (y16 : Int) + (yp : Int) + (y7 : Int) + (yq : Int) := by rw [IntKind.wrap_i64]; omega
            have HWD := Lib.hid (fun w => word_any ((y16 : Int) + (yp : Int) + (y7 : Int) + (yq : Int)) w (by omega) (by omega))
            go_region_held3 (fun w' => w'.cell? ⟨wb, wf + (i - 16), none⟩ = some (.int .i64 ((y16 : Nat) : Int)) ∧ w'.cell? ⟨wb, wf + (i - 7), none⟩ = some (.int .i64 ((y7 : Nat) : Int)))
              (first | exact HW.out _ (Below.refl _ _).drew | exact HW.out _ (Below.refl _ _) | exact HW.out _ ((Below.refl _ _).alloc (Nat.le_refl _) _).drew | exact ⟨(hkp (i - 16) (by omega)).trans (HW.out _ ((Below.refl _ _).alloc (Nat.le_refl _) _).drew).1, (hkp (i - 7) (by omega)).trans (HW.out _ ((Below.refl _ _).alloc (Nat.le_refl _) _).drew).2⟩)
              ((first
                | (go_at_call 21; (with_reducible refine (HWD.out _).mono ?_); rintro e w' ⟨rfl, rfl⟩)
                | (refine step_append_keep (by rfl) _ _ 42 42 (by rfl) 3 i1 (.int .i64 0) 8 Try.underlying42 HI1.out HY0.out HY1.out HY2.out rfl (by decide) wb wf c (by rfl) ((hm2.out.alloc _).drew) ((hb2.out.alloc hb2.out.size _).drew) _ 1 [.int .i64 (((y16 : Int) + (yp : Int) + (y7 : Int) + (yq : Int)) % 4294967296)] (by rfl) (src_new_drew Try.underlying42 w2 _ [.int .i64 (((y16 : Int) + (yp : Int) + (y7 : Int) + (yq : Int)) % 4294967296)] 1 1 rfl (by simp [Value.oneCell'])) (by unfold maxLen; omega) (by omega) ?_; intro A9 e9 W9 hm3 hb3 hkp)))
            clear q16 q7 t16 t7 p16 p7 l16 l7 z1 z2 z3 g16 g7 i7 hkp
            go_wp2
            go_roundg (65 - (i + 1))
            case measure => omega
            case rel => exact ⟨i + 1, A9, e9, rfl, by omega, by go_num, rfl, Lib.hid (by rw [hsc.out, i64c_append, ← hL.out]; rw [E.out] at hm3; rw [hL.out]; exact hm3), Lib.hid hb3⟩
        · obtain rfl : i = 64 := by omega
          rw [Sp.sch_all] at hm
          obtain ⟨wb, wf, rfl, hrt⟩ : ∃ wb wf, A = some ⟨wb, wf, none⟩ ∧ RT w wr pb po n (Sp.wordsUp T n) st wb wf (Sp.ext 48 X) := by
            obtain ⟨b, how, hbg⟩ := hm.out
            obtain ⟨A', c', heq, _, _, hr⟩ := how.row
            cases heq
            rcases hr with h0 | ⟨wb, wf, h1, h2, h3⟩
            · omega
            · have hw0 : w.heap.size ≤ wo.heap.size := hRS.out.1.size
              have hwl := hRS.out.2.1.lt
              have hwb : wo.heap.size ≤ wb := by
                obtain ⟨_, A2, c2, heq, _, _, ⟨_, h5⟩ | ⟨g, off, h4, h5, h6, _⟩⟩ := how
                · cases heq; omega
                · cases heq
                  rw [h1] at h5; cases h5
                  exact hbg _ h4
              refine ⟨wb, wf, h1, hRS.out.below hb.out, h2, by omega, fun j hj => ?_⟩
              rw [h3 j (by omega)]
              exact congrArg some (i64c_at _ (by rw [Sp.ext_length, hXl.out]; omega))
          have hRT := Lib.hid hrt
          obtain ⟨Y, hY⟩ : ∃ Y, Hid (Sp.ext 48 X = Y) := ⟨_, Lib.hid rfl⟩
          rw [hY.out] at hRT
          have hYl : Hid (Sp.allLt Y) := Lib.hid (by rw [← hY.out]; exact Sp.ext_lt _ _ hXlt.out)
          obtain ⟨a0, b0, c0, d0, e0, f0, g0, h0⟩ := st
          have hB := hrt.1.2.1
          have q0 : wr.cell? ⟨w.heap.size, 0, none⟩ = some (.int .i64 (a0 : Int)) := hB.cell 0
          have q1 : wr.cell? ⟨w.heap.size, 1, none⟩ = some (.int .i64 (b0 : Int)) := hB.cell 1
          have q2 : wr.cell? ⟨w.heap.size, 2, none⟩ = some (.int .i64 (c0 : Int)) := hB.cell 2
          have q3 : wr.cell? ⟨w.heap.size, 3, none⟩ = some (.int .i64 (d0 : Int)) := hB.cell 3
          have q4 : wr.cell? ⟨w.heap.size, 4, none⟩ = some (.int .i64 (e0 : Int)) := hB.cell 4
          have q5 : wr.cell? ⟨w.heap.size, 5, none⟩ = some (.int .i64 (f0 : Int)) := hB.cell 5
          have q6 : wr.cell? ⟨w.heap.size, 6, none⟩ = some (.int .i64 (g0 : Int)) := hB.cell 6
          have q7 : wr.cell? ⟨w.heap.size, 7, none⟩ = some (.int .i64 (h0 : Int)) := hB.cell 7
          clear hB hrt hm hb hi64 hi
          go_upto_region 17 with (fail)
          go_quiet (fail)
          clear q0 q1 q2 q3 q4 q5 q6 q7
          go_wp2
          generalize hw2 : World.drewN _ _ = w2
          have hRT2 : Hid (RT w w2 pb po n (Sp.wordsUp T n) ⟨a0, b0, c0, d0, e0, f0, g0, h0⟩ wb wf Y) := Lib.hid (by rw [← hw2]; exact hRT.out.drewN _)
          clear hRT hw2
          go_loopg [13, 14, 15, 16, 17, 18, 19, 20, 21] 65 (fun gk s13 s14 s15 s16 s17 s18 s19 s20 s21 wr => ∃ (k : Nat) (v : Sp.St), gk = 65 - k ∧ k ≤ 64 ∧ s21 = .int .i64 (k : Int) ∧ s13 = .int .i64 (v.a : Int) ∧ s14 = .int .i64 (v.b : Int) ∧ s15 = .int .i64 (v.c : Int) ∧ s16 = .int .i64 (v.d : Int) ∧ s17 = .int .i64 (v.e : Int) ∧ s18 = .int .i64 (v.f : Int) ∧ s19 = .int .i64 (v.g : Int) ∧ s20 = .int .i64 (v.h : Int) ∧
            Hid (v = Sp.rounds Y ⟨a0, b0, c0, d0, e0, f0, g0, h0⟩ k) ∧ Hid v.ok ∧ Hid (RT w wr pb po n (Sp.wordsUp T n) ⟨a0, b0, c0, d0, e0, f0, g0, h0⟩ wb wf Y))
          case atStart => exact ⟨0, ⟨a0, b0, c0, d0, e0, f0, g0, h0⟩, rfl, Nat.zero_le _, rfl, rfl, rfl, rfl, rfl, rfl, rfl, rfl, rfl, Lib.hid rfl, hok, hRT2⟩
          case round =>
            clear hRT2
            obtain ⟨k, ⟨a, b', c', d, e, f, g, h8⟩, rfl, hk, rfl, rfl, rfl, rfl, rfl, rfl, rfl, rfl, rfl, hv, hvo, hRT⟩ := hrel
            have kk0 : (0 : Int) ≤ (k : Int) := by omega
            by_cases hk64 : k < 64
            · have k64 : (k : Int) < 64 := by omega
              have ck : wr.cell? ⟨w.heap.size + 1, k, none⟩ = some (.int .i64 ((Sp.K.getD k 0 : Nat) : Int)) := by
                rw [hRT.out.1.2.2.1.cell, List.getElem?_toArray]; exact i64c_get _ (by show k < 64; omega)
              have cw := hRT.out.2.2.2 k (by omega)
              have xkk : Sp.K.getD k 0 < 4294967296 := K_lt k
              have xww : Y.getD k 0 < 4294967296 := getD_lt hYl.out k
              obtain ⟨kk, hkk⟩ : ∃ kk, Hid (Sp.K.getD k 0 = kk) := ⟨_, Lib.hid rfl⟩
              obtain ⟨ww, hww⟩ : ∃ ww, Hid (Y.getD k 0 = ww) := ⟨_, Lib.hid rfl⟩
              rw [hkk.out] at ck xkk
              rw [hww.out] at cw xww
              obtain ⟨xa, xb, xc, xd, xe, xf, xg, xh⟩ := id hvo.out
              simp only at xa xb xc xd xe xf xg xh
              go_upto_region 22 with (fail)
              rw [ch_eq e f g xe xf xg]
              have xcv := Sp.ch_lt (e := e) xf xg
              have xsv := Sp.S1_lt e
              have EX := S1_eq e
              obtain ⟨cv, hcv⟩ : ∃ cv, Hid (Sp.ch e f g = cv) := ⟨_, Lib.hid rfl⟩
              obtain ⟨sv, hsv⟩ : ∃ sv, Hid (Sp.S1 e = sv) := ⟨_, Lib.hid rfl⟩
              rw [hcv.out] at xcv ⊢
              rw [hsv.out] at xsv EX
              have z1 : IntKind.i64.wrap ((h8 : Int) + (sv : Int)) = (h8 : Int) + (sv : Int) := by rw [IntKind.wrap_i64]; omega
              have z2 : IntKind.i64.wrap ((h8 : Int) + (sv : Int) + (cv : Int)) = (h8 : Int) + (sv : Int) + (cv : Int) := by rw [IntKind.wrap_i64]; omega
              have z3 : IntKind.i64.wrap ((h8 : Int) + (sv : Int) + (cv : Int) + (kk : Int)) = (h8 : Int) + (sv : Int) + (cv : Int) + (kk : Int) := by rw [IntKind.wrap_i64]; omega
              have z4 : IntKind.i64.wrap ((h8 : Int) + (sv : Int) + (cv : Int) + (kk : Int) + (ww : Int)) = (h8 : Int) + (sv : Int) + (cv : Int) + (kk : Int) + (ww : Int) := by rw [IntKind.wrap_i64]; omega
              go_quiet ((go_at_call 20; (first | with_reducible refine (turn6_calls _ _ xe).mono ?_ | with_reducible refine (turn11_calls _ _ xe).mono ?_ | with_reducible refine (turn25_calls _ _ xe).mono ?_); rintro e w' ⟨rfl, ⟨nd, rfl⟩⟩; first | exact ⟨rfl, _, World.drewN_drewN _ _ _⟩ | exact ⟨rfl, _, rfl⟩))
              go_upto_region 23 with (fail)
              obtain ⟨Tn, hTn⟩ : ∃ Tn : Nat, Hid ((h8 : Int) + (sv : Int) + (cv : Int) + (kk : Int) + (ww : Int) = (Tn : Int)) := ⟨h8 + sv + cv + kk + ww, Lib.hid (by push_cast; rfl)⟩
              rw [hTn.out]
              clear EX z1 z2 z3 z4 ck cw
              have xTn : Tn < 30000000000 := by have := hTn.out; omega
              have EX0 := S0_eq a
              have EM := maj_eq a b' c' xa xb xc
              have xs0 := Sp.S0_lt a
              have xmv := Sp.maj_lt (a := a) xb xc
              obtain ⟨s0v, hs0⟩ : ∃ s0v, Hid (Sp.S0 a = s0v) := ⟨_, Lib.hid rfl⟩
              obtain ⟨mv, hmv⟩ : ∃ mv, Hid (Sp.maj a b' c' = mv) := ⟨_, Lib.hid rfl⟩
              rw [hs0.out] at xs0 EX0
              rw [hmv.out] at xmv EM
              have z5 : IntKind.i64.wrap ((s0v : Int) + (mv : Int)) = (s0v : Int) + (mv : Int) := by rw [IntKind.wrap_i64]; omega
              go_upto_region 24 with (first | (go_at_call 20; (first | with_reducible refine (turn2_calls _ _ xa).mono ?_ | with_reducible refine (turn13_calls _ _ xa).mono ?_ | with_reducible refine (turn22_calls _ _ xa).mono ?_); rintro e w' ⟨rfl, dd, rfl⟩))
              have z6 : IntKind.i64.wrap ((d : Int) + (Tn : Int)) = (d : Int) + (Tn : Int) := by rw [IntKind.wrap_i64]; omega
              have z7 : IntKind.i64.wrap ((Tn : Int) + ((s0v : Int) + (mv : Int))) = (Tn : Int) + ((s0v : Int) + (mv : Int)) := by rw [IntKind.wrap_i64]; omega
              have W1 := Lib.hid (fun w => word_any ((d : Int) + (Tn : Int)) w (by omega) (by omega))
              have W2 := Lib.hid (fun w => word_any ((Tn : Int) + ((s0v : Int) + (mv : Int))) w (by omega) (by omega))
              generalize hw2 : World.drewN _ _ = w2
              have hRT3 : Hid (RT w w2 pb po n (Sp.wordsUp T n) ⟨a0, b0, c0, d0, e0, f0, g0, h0⟩ wb wf Y) := Lib.hid (by rw [← hw2]; exact hRT.out.drewN _)
              clear hRT hw2 EX0 EM z5
              go_wp2_with (first | (go_at_call 21; (first | with_reducible refine (W1.out _).mono ?_ | with_reducible refine (W2.out _).mono ?_); rintro e w' ⟨rfl, rfl⟩))
              have E1 : ((d : Int) + (Tn : Int)) % 4294967296 = (((d + (h8 + sv + cv + kk + ww) % 4294967296) % 4294967296 : Nat) : Int) := by have := hTn.out; omega
              have E2 : ((Tn : Int) + ((s0v : Int) + (mv : Int))) % 4294967296 = ((((h8 + sv + cv + kk + ww) % 4294967296 + (s0v + mv) % 4294967296) % 4294967296 : Nat) : Int) := by have := hTn.out; omega
              rw [E1, E2]
              go_roundg (65 - (k + 1))
              case measure => omega
              case rel =>
                refine ⟨k + 1, Sp.round ⟨a, b', c', d, e, f, g, h8⟩ kk ww, rfl, by omega, by go_num, ?_, rfl, rfl, rfl, ?_, rfl, rfl, rfl, Lib.hid (by rw [hv.out, ← hkk.out, ← hww.out]; rfl), Lib.hid (Sp.round_ok hvo.out _ _), hRT3⟩
                · rw [← hsv.out, ← hcv.out, ← hs0.out, ← hmv.out]; rfl
                · rw [← hsv.out, ← hcv.out]; rfl
            · obtain rfl : k = 64 := by omega
              obtain ⟨v, hvv⟩ : ∃ v : Sp.St, v = ⟨a, b', c', d, e, f, g, h8⟩ := ⟨_, rfl⟩
              have hRU0 := Lib.hid (RU.start hRT.out.1 ⟨a, b', c', d, e, f, g, h8⟩)
              clear hvv
              go_wp2
              have hRU1 : Hid (∃ nb wx, nb = wr.heap.size ∧ wx = wr.alloc (.cells #[.int .i64 (a : Int), .int .i64 (b' : Int), .int .i64 (c' : Int), .int .i64 (d : Int), .int .i64 (e : Int), .int .i64 (f : Int), .int .i64 (g : Int), .int .i64 (h8 : Int)] 3) ∧ RU w wx pb po n (Sp.wordsUp T n) ⟨a0, b0, c0, d0, e0, f0, g0, h0⟩ ⟨a, b', c', d, e, f, g, h8⟩ nb 0) := Lib.hid ⟨_, _, rfl, rfl, hRU0.out⟩
              obtain ⟨nb, wx, hnb, hwx, hRU2⟩ := hRU1.out
              rw [← hwx, ← hnb]
              have hRU := Lib.hid hRU2
              clear hRU2 hRU1 hRU0 hnb hwx hRT
              go_loopg [26] 9 (fun gk s26 wr => ∃ j, gk = 9 - j ∧ j ≤ 8 ∧ s26 = .int .i64 (j : Int) ∧ Hid (RU w wr pb po n (Sp.wordsUp T n) ⟨a0, b0, c0, d0, e0, f0, g0, h0⟩ ⟨a, b', c', d, e, f, g, h8⟩ nb j))
              case atStart => exact ⟨0, rfl, Nat.zero_le _, rfl, hRU⟩
              case round =>
                clear hRU
                obtain ⟨j, rfl, hj, rfl, hRU⟩ := hrel
                by_cases hj8 : j < 8
                · have hx' := hRU.out
                  obtain ⟨_, hB0, _, _, _, _, _, hB10⟩ := hx'
                  have q0 : wr.cell? ⟨w.heap.size, j, none⟩ = some (.int .i64 (((Sp.St.list ⟨a0, b0, c0, d0, e0, f0, g0, h0⟩).getD j 0 : Nat) : Int)) := by rw [hB0.cell, List.getElem?_toArray, i64c_get _ (by rw [pl_length]; exact hj8), pl_at hj8]
                  have q1 : wr.cell? ⟨nb, j, none⟩ = some (.int .i64 (((Sp.St.list ⟨a, b', c', d, e, f, g, h8⟩).getD j 0 : Nat) : Int)) := by rw [hB10.cell, List.getElem?_toArray]; exact i64c_get _ hj8
                  have fz := hB0.frozen j
                  have xya : (Sp.St.list ⟨a0, b0, c0, d0, e0, f0, g0, h0⟩).getD j 0 < 4294967296 := Sp.list_lt hok.out j
                  have xyb : (Sp.St.list ⟨a, b', c', d, e, f, g, h8⟩).getD j 0 < 4294967296 := Sp.list_lt hvo.out j
                  obtain ⟨ya, hya⟩ : ∃ ya, Hid ((Sp.St.list ⟨a0, b0, c0, d0, e0, f0, g0, h0⟩).getD j 0 = ya) := ⟨_, Lib.hid rfl⟩
                  obtain ⟨yb, hyb⟩ : ∃ yb, Hid ((Sp.St.list ⟨a, b', c', d, e, f, g, h8⟩).getD j 0 = yb) := ⟨_, Lib.hid rfl⟩
                  rw [hya.out] at q0 xya
                  rw [hyb.out] at q1 xyb
                  clear hB0 hB10
                  have j8 : (j : Int) < 8 := by omega
                  have jj : (0 : Int) ≤ (j : Int) := by omega
                  have z1 : IntKind.i64.wrap ((ya : Int) + (yb : Int)) = (ya : Int) + (yb : Int) := by rw [IntKind.wrap_i64]; omega
                  have W1 := Lib.hid (fun w => word_any ((ya : Int) + (yb : Int)) w (by omega) (by omega))
                  have E : Hid (((ya : Int) + (yb : Int)) % 4294967296 = (((ya + yb) % 4294967296 : Nat) : Int)) := Lib.hid (by omega)
                  go_upto_region 36 with (fail)
                  go_still_tail 13, (by kernel_rfl)
                  still_call (W1.out _)
                  repeat still_step
                  refine wpStill_nil ?_
                  change wpList _ _ _ _ _ wr.drew
                  go_wp2
                  go_roundg (9 - (j + 1))
                  case measure => omega
                  case rel => exact ⟨j + 1, rfl, by omega, by go_num, Lib.hid (by rw [E.out, ← hya.out, ← hyb.out]; exact hRU.out.step)⟩
                · obtain rfl : j = 8 := by omega
                  have hRS9 := Lib.hid hRU.out.done
                  have hbk : Hid (Sp.blocks Sp.H0 T (q + 1) = Sp.plus ⟨a0, b0, c0, d0, e0, f0, g0, h0⟩ ⟨a, b', c', d, e, f, g, h8⟩) := Lib.hid (by
                    rw [← Sp.mix_step, hst.out, hv.out, ← hY.out, ← hX.out]; rfl)
                  clear hRU
                  have hqb : q < 20000000000 := by have := hNb.out; omega
                  have hwat : IntKind.i64.wrap ((at_ : Int) + 16) = (at_ : Int) + 16 := by rw [IntKind.wrap_i64]; have := HAT.out; omega
                  go_wp2
                  go_roundg (N + 1 - (q + 1))
                  case measure => omega
                  case rel => exact ⟨q + 1, rfl, by omega, by rw [Nat.mul_add, HAT.out]; rfl, Lib.hid (by rw [hbk.out]; exact hRS9.out)⟩
    · obtain rfl : q = N := by omega
      have hatn : ¬ at_ < n := by have := HnN.out; omega
      have hfin : Hid (Sp.sum (bts s) = Sp.out st) := Lib.hid (by
        unfold Sp.sum; rw [hT.out, ← hN.out, hst.out])
      have hls : Hid (st.list.length = 8) := Lib.hid rfl
      clear hat
      go_wp2
      obtain ⟨wo, rfl⟩ : ∃ x, x = wr := ⟨_, rfl⟩
      obtain ⟨i0, hi0, hz0, hz1, hz2⟩ := info_parts info_u8
      have HI0 := Lib.hid hi0
      have HZ0 := Lib.hid hz0
      have HZ1 := Lib.hid hz1
      have HZ2 := Lib.hid hz2
      clear hi0 hz0 hz1 hz2 HI1 HY0 HY1 HY2 hatn
      go_loopg [27, 28] 9 (fun gk s27 s28 wr => ∃ j A c, gk = 9 - j ∧ j ≤ 8 ∧ s28 = .int .i64 (j : Int) ∧ s27 = .slice A (4 * j) c ∧ Hid (Mine wo wr 1 (.slice A (4 * j) c) (4 * j) (u8c ((st.list.take j).flatMap Sp.bytes4))) ∧ Hid (Below wo.heap.size wo wr))
      case atStart => exact ⟨0, none, 0, rfl, Nat.zero_le _, rfl, rfl, Lib.hid (Mine.empty _ _ _ _), Lib.hid (Below.refl _ _)⟩
      case round =>
        obtain ⟨j, A, c, rfl, hj, rfl, rfl, hm, hb⟩ := hrel
        obtain ⟨m4, hm4⟩ : ∃ m4, 4 * j = m4 := ⟨_, rfl⟩
        rw [hm4] at hm ⊢
        have HM4 := Lib.hid hm4
        by_cases hlt8 : j < 8
        · have htake : Hid ((st.list.take (j + 1)).flatMap Sp.bytes4 = (st.list.take j).flatMap Sp.bytes4 ++ Sp.bytes4 (st.list.getD j 0)) := Lib.hid (by
            rw [List.take_add_one, List.flatMap_append, List.getD_eq_getElem?_getD, List.getElem?_eq_getElem (by rw [hls.out]; exact hlt8)]
            simp)
          have hxl : st.list.getD j 0 < 4294967296 := Sp.list_lt hok.out j
          have HW : Hid (∀ w', Below wo.heap.size wo w' → w'.cell? ⟨w.heap.size, j, none⟩ = some (.int .i64 ((st.list.getD j 0 : Nat) : Int))) := Lib.hid fun w' hb' => by
            have hB := hRS.out.2.1
            rw [hb'.cell (p := ⟨w.heap.size, j, none⟩) hB.lt, hB.cell, List.getElem?_toArray]; exact i64c_get _ (by rw [hls.out]; exact hlt8)
          have q0 := HW.out _ hb.out
          generalize st.list.getD j 0 = x at *
          have j8 : (j : Int) < 8 := by omega
          have jj : (0 : Int) ≤ (j : Int) := by omega
          have m2 : bits .and .i64 ((x : Int) / 65536) 255 = (x : Int) / 65536 % 256 := by
            rw [show (x : Int) / 65536 = ((x / 65536 : Nat) : Int) from by omega, mask8 _ (by omega)]; omega
          have m3 : bits .and .i64 ((x : Int) / 256) 255 = (x : Int) / 256 % 256 := by
            rw [show (x : Int) / 256 = ((x / 256 : Nat) : Int) from by omega, mask8 _ (by omega)]; omega
          have m4' : bits .and .i64 (x : Int) 255 = (x : Int) % 256 := by rw [mask8 _ (by omega)]; omega
          have f1 : IntKind.u8.wrap ((x : Int) / 16777216) = (x : Int) / 16777216 := by rw [IntKind.wrap_u8']; omega
          have f2 : IntKind.u8.wrap ((x : Int) / 65536 % 256) = (x : Int) / 65536 % 256 := by rw [IntKind.wrap_u8']; omega
          have f3 : IntKind.u8.wrap ((x : Int) / 256 % 256) = (x : Int) / 256 % 256 := by rw [IntKind.wrap_u8']; omega
          have f4 : IntKind.u8.wrap ((x : Int) % 256) = (x : Int) % 256 := by rw [IntKind.wrap_u8']; omega
          have hmb4 : Hid (m4 ≤ 28) := Lib.hid (by omega)
          clear hm4
          go_upto_region 41 with (fail)
          go_region_held3 (fun w' => w'.cell? ⟨w.heap.size, j, none⟩ = some (.int .i64 (x : Int)))
            (first | exact HW.out _ hb3 | exact HW.out _ hb.out.drew | exact HW.out _ hb.out | exact HW.out _ (hb.out.alloc hb.out.size _).drew)
            ((refine step_append_mine (by rfl) _ _ 34 34 (by rfl) 5 i0 (.int .u8 0) 1 Try.underlying34 HI0.out HZ0.out HZ1.out HZ2.out rfl (by decide) (by rfl) ((hm.out.alloc _).drew) ((hb.out.alloc hb.out.size _).drew) _ 4 [.int .u8 ((x : Int) / 16777216), .int .u8 ((x : Int) / 65536 % 256), .int .u8 ((x : Int) / 256 % 256), .int .u8 ((x : Int) % 256)] (by rfl) (src_new_drew Try.underlying34 wr _ [.int .u8 ((x : Int) / 16777216), .int .u8 ((x : Int) / 65536 % 256), .int .u8 ((x : Int) / 256 % 256), .int .u8 ((x : Int) % 256)] 4 4 rfl (by simp [Value.oneCell'])) (by have := hmb4.out; unfold maxLen; omega) (by have := hmb4.out; omega) ?_; intro A9 e9 W9 hm3 hb3))
          clear q0 m2 m3 m4' f1 f2 f3 f4
          go_wp2
          go_roundg (9 - (j + 1))
          case measure => omega
          case rel => exact ⟨j + 1, A9, e9, rfl, by omega, by go_num, by rw [Nat.mul_add, HM4.out], Lib.hid (by rw [Nat.mul_add, HM4.out, htake.out, u8c_append, Sp.u8c_bytes4]; exact hm3), Lib.hid hb3⟩
        · obtain rfl : j = 8 := by omega
          obtain rfl : m4 = 32 := by omega
          obtain ⟨Ap, cp, heq, hqc, _, hrow⟩ := hm.out.row
          cases heq
          obtain ⟨pb2, po2, rfl, hpb2, hcl⟩ : ∃ pb po, A = some ⟨pb, po, none⟩ ∧ pb < wr.heap.size ∧ ∀ i, i < 32 → wr.cell? ⟨pb, po + i, none⟩ = some (.int .u8 ((((Sp.out st).map fun (n : Nat) => (n : Int)).getD i 0))) := by
            rcases hrow with h0 | ⟨pb, po, h1, h2, h3⟩
            · omega
            · refine ⟨pb, po, h1, h2, fun i hi => ?_⟩
              rw [h3 i (by omega)]
              have hl32 : ((st.list.take 8).flatMap Sp.bytes4).length = 32 := by have := hm.out.len; rw [u8c_length] at this; exact this
              refine (congrArg some (u8c_at _ (by omega))).trans ?_
              have e8 : (st.list.take 8).flatMap Sp.bytes4 = Sp.out st := rfl
              rw [e8] at hl32 ⊢
              rw [List.getD_eq_getElem?_getD, List.getD_eq_getElem?_getD, List.getElem?_map, List.getElem?_eq_getElem (by omega)]
              rfl
          have hcv := run_convert_bytes_arg (P := Try.prog) wr 34 5 (by kernel_rfl) (by kernel_rfl) pb2 po2 32 c ((Sp.out st).map fun (n : Nat) => (n : Int)) (by rfl) hcl 9 (by kernel_rfl)
          have hres : Hid (strOfNums ((Sp.out st).map fun (n : Nat) => (n : Int)) = dig s) := Lib.hid (by unfold dig; rw [hfin.out])
          clear hcl hrow hm hm4
          generalize strOfNums ((Sp.out st).map fun (n : Nat) => (n : Int)) = str at hcv hres
          go_wp2
          go_ret
          refine ⟨by rw [← hres.out]; rfl, ?_⟩
          have h1 := hRS.out.1
          exact h1.trans (hb.out.mono h1.size)
end Go.Proofs.Ytblgldllfllcpaa
