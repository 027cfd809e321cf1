/- The readers of the reference: Now, Was, Price, Last, and Number. -/
import Derived.Test.YtccmafmeblojpaaRfM
namespace Go.Proofs.Ytccmafmeblojpaa
open Go.RowKit
set_option linter.unusedVariables false
set_option linter.unusedSimpArgs false
section
variable (w : World) (a : Auc) (A : Option Addr) (XS : List (Option Addr × Nat)) (n c : Nat)
theorem rnow_calls (hn : XS.length = n) (h1 : 1 ≤ n) (h2 : n ≤ 200) (h : RA A XS a w) :
    Calls Try.prog 40 #[rval a A n c] w fun e w' => e = .returned (.slice (XS.getD (n - 1) (none, 0)).1 a.l.length (XS.getD (n - 1) (none, 0)).2) ∧ Below w.heap.size w w' := by
  obtain ⟨k, hk⟩ : ∃ k, k + 1 = n := ⟨n - 1, by omega⟩
  obtain ⟨b, o, rfl, _, hc⟩ := h.cell (i := k) (by omega)
  have e : n - 1 = k := by omega
  rw [e]
  generalize XS.getD k (none, 0) = x at hc ⊢
  generalize a.l.length = m at hc ⊢
  have q : IntKind.i64.wrap ((n : Int) - 1) = (k : Int) := by rw [IntKind.wrap_i64]; omega
  have q0 : (0 : Int) ≤ (k : Int) := by omega
  have q1 : (k : Int) < (n : Int) := by omega
  have hb0 : Hid (Below w.heap.size w (w.alloc (.cells #[.int .i64 a.supply, .int .i64 a.start, .int .i64 a.step, .int .i64 a.state, .slice (some ⟨b, o, none⟩) n c] 56))) := Lib.hid ((Below.refl _ _).alloc (Nat.le_refl _) _)
  clear h hn h1 h2 hk e
  unfold rval
  go_enter Try.func40, Try.ntmps40
  go_wp2
  go_ret
  exact ⟨rfl, hb0.out⟩
theorem Beside.was1 {a : Auc} {n : Nat} (hB : Beside a n) (h : n < 2) {i : Nat} (hi : i < a.l.length) : a.wasl.getD i 0 = 0 := by
  have h1 := hB.pos
  rw [Auc.wasl_at a hi]
  exact hB.fair.first (by rw [hB.round]; omega) _ (getD_mem_l hi)
theorem rwas_calls (hB : Beside a n) (hn : XS.length = n) (h : RA A XS a w) (i : Nat) (hi : i < a.l.length) :
    Calls Try.prog 43 #[rval a A n c, .int .i64 (i : Int)] w fun e w' => e = .returned (.int .i64 (a.wasl.getD i 0)) ∧ Below w.heap.size w w' := by
  have i0 : (0 : Int) ≤ (i : Int) := by omega
  have hb0 : Hid (∀ A, Below w.heap.size w (w.alloc (.cells #[.int .i64 a.supply, .int .i64 a.start, .int .i64 a.step, .int .i64 a.state, .slice A n c] 56))) := Lib.hid fun A => ((Below.refl _ _).alloc (Nat.le_refl _) _)
  have hp := hB.pos
  have hf := hB.few
  by_cases h2 : n < 2
  · have E := Lib.hid (hB.was1 h2 hi)
    have h2I : (n : Int) < 2 := by omega
    clear h hn hB hp h2 hi
    unfold rval
    go_enter Try.func43, Try.ntmps43
    go_wp2
    go_ret
    exact ⟨ret_i E.out.symm, hb0.out _⟩
  · obtain ⟨k, hk⟩ : ∃ k, k + 2 = n := ⟨n - 2, by omega⟩
    obtain ⟨b, o, rfl, _, hc⟩ := h.cell (i := k) (by omega)
    have hw := h.was (by omega)
    have e : XS.length - 2 = k := by omega
    rw [e] at hw
    have hwl := Auc.wasl_length a
    obtain ⟨b2, o2, e2, l2, -⟩ := Row.at_ hw (k := i) (by rw [hwl]; exact hi)
    generalize XS.getD k (none, 0) = x at hc hw e2
    obtain ⟨x1, x2⟩ := x
    simp only at e2 hw hc
    subst e2
    have hc2 := hw.cell (i := i) (by rw [hwl]; exact hi)
    generalize a.wasl.getD i 0 = y at hc2 ⊢
    generalize a.l.length = m at hc hi
    have h2I : ¬ (n : Int) < 2 := by omega
    have q : IntKind.i64.wrap ((n : Int) - 2) = (k : Int) := by rw [IntKind.wrap_i64]; omega
    have q0 : (0 : Int) ≤ (k : Int) := by omega
    have q1 : (k : Int) < (n : Int) := by omega
    have q2 : (i : Int) < (m : Int) := by omega
    clear h hn hB hp h2 hw hk e hi hwl hf
    unfold rval
    go_enter Try.func43, Try.ntmps43
    go_wp2
    go_ret
    exact ⟨rfl, hb0.out _⟩
theorem rprice_calls (hB : Beside a n) : Calls Try.prog 41 #[rval a A n c] w fun e w' => e = .returned (.int .i64 a.price) ∧ Below w.heap.size w w' := by
  obtain ⟨l1, l2, l3⟩ := hB.ok.lap
  have h1 := hB.ok.round
  have h2 := hB.ok.start
  have h3 := hB.ok.step
  have h4 := hB.ok.price
  have hf := hB.few
  have E := Lib.hid (show a.price = a.start + (a.round - 1) * a.step from rfl)
  rw [hB.round] at l1 l2 l3 E
  have E2 : a.price = a.start + ((n : Int) - 1) * a.step := E.out
  have q1 : IntKind.i64.wrap ((n : Int) - 1) = (n : Int) - 1 := by rw [IntKind.wrap_i64]; omega
  have q2 : IntKind.i64.wrap (((n : Int) - 1) * a.step) = ((n : Int) - 1) * a.step := by rw [IntKind.wrap_i64]; omega
  have q3 : IntKind.i64.wrap (a.start + ((n : Int) - 1) * a.step) = a.start + ((n : Int) - 1) * a.step := by rw [IntKind.wrap_i64]; omega
  have hb0 : Hid (Below w.heap.size w (w.alloc (.cells #[.int .i64 a.supply, .int .i64 a.start, .int .i64 a.step, .int .i64 a.state, .slice A n c] 56))) := Lib.hid ((Below.refl _ _).alloc (Nat.le_refl _) _)
  clear hB l1 l2 l3 h1 h2 h3 h4 E2
  rw [E.out]
  unfold rval
  go_enter Try.func41, Try.ntmps41
  go_wp2
  go_ret
  exact ⟨rfl, hb0.out⟩
def Auc.last (a : Auc) : Int := if a.round < 2 then 0 else a.price - a.step
theorem rlast_calls (hB : Beside a n) : Calls Try.prog 42 #[rval a A n c] w fun e w' => e = .returned (.int .i64 a.last) ∧ Below w.heap.size w w' := by
  have E : Hid (a.last = if a.round < 2 then 0 else a.price - a.step) := Lib.hid rfl
  rw [hB.round] at E
  have HP := Lib.hid (fun w => rprice_calls w a A n c hB)
  have h3 := hB.ok.step
  have h4 := hB.ok.price
  have h5 : 0 ≤ a.price := by
    have := hB.ok.start.1
    have := hB.ok.lap.1
    show 0 ≤ a.start + (a.round - 1) * a.step
    omega
  have q1 : IntKind.i64.wrap (a.price - a.step) = a.price - a.step := by rw [IntKind.wrap_i64]; omega
  have hb0 : Hid (Below w.heap.size w (w.alloc (.cells #[.int .i64 a.supply, .int .i64 a.start, .int .i64 a.step, .int .i64 a.state, .slice A n c] 56))) := Lib.hid ((Below.refl _ _).alloc (Nat.le_refl _) _)
  have B1 : Hid (Blk (w.alloc (.cells #[.int .i64 a.supply, .int .i64 a.start, .int .i64 a.step, .int .i64 a.state, .slice A n c] 56)) w.heap.size 56 #[.int .i64 a.supply, .int .i64 a.start, .int .i64 a.step, .int .i64 a.state, .slice A n c]) := Lib.hid (Blk.new _ _ _)
  have hf := hB.few
  generalize a.price = pr at E HP q1
  clear hB h3 h4 h5
  unfold rval
  go_enter Try.func42, Try.ntmps42
  by_cases h2 : (n : Int) < 2
  · rw [if_pos h2] at E
    go_wp2
    go_ret
    exact ⟨ret_i E.out.symm, hb0.out⟩
  · rw [if_neg h2] at E
    go_upto_region 3 with (fail)
    obtain ⟨g1, hg1⟩ : ∃ g1, w.heap.size = g1 := ⟨_, rfl⟩
    rw [hg1] at B1 ⊢
    clear hg1
    generalize World.alloc w _ = wy at hb0 B1 ⊢
    have HX : Hid (∀ wx : World, Below wy.heap.size wy wx → (wx.cell? ⟨g1, 0, none⟩ = some (.int .i64 a.supply) ∧ wx.cell? ⟨g1, 1, none⟩ = some (.int .i64 a.start) ∧ wx.cell? ⟨g1, 2, none⟩ = some (.int .i64 a.step) ∧ wx.cell? ⟨g1, 3, none⟩ = some (.int .i64 a.state) ∧ wx.cell? ⟨g1, 4, none⟩ = some (.slice A n c))) := Lib.hid fun wx hb => by
      have b1 := B1.out.below hb B1.out.lt
      exact ⟨b1.cell 0, b1.cell 1, b1.cell 2, b1.cell 3, b1.cell 4⟩
    have Hd0 : Hid (Below wy.heap.size wy wy.drew) := Lib.hid (Below.refl _ _).drew
    have HPx := Lib.hid (HP.out wy.drew)
    unfold rval at HPx
    go_region_held3 (fun wx => (wx.cell? ⟨g1, 0, none⟩ = some (.int .i64 a.supply) ∧ wx.cell? ⟨g1, 1, none⟩ = some (.int .i64 a.start) ∧ wx.cell? ⟨g1, 2, none⟩ = some (.int .i64 a.step) ∧ wx.cell? ⟨g1, 3, none⟩ = some (.int .i64 a.state) ∧ wx.cell? ⟨g1, 4, none⟩ = some (.slice A n c)))
      (first | (with_reducible exact HX.out _ Hd0.out) | (with_reducible exact HX.out _ hb1.out) | fail)
      (first | (go_at_call 41; (with_reducible refine (HPx.out).mono ?_); rintro e w1 ⟨rfl, hh⟩; have hb1 := Lib.hid (below_next Hd0.out hh); clear hh))
    go_wp2
    go_ret
    exact ⟨ret_i E.out.symm, below_next hb0.out hb1.out⟩
end
set_option maxHeartbeats 2000000 in
set_option maxRecDepth 20000 in
theorem rnumber_calls (w : World) (N : Nat) (hN : N ≤ 9007199254740992) :
    Calls Try.prog 49 #[.int .i64 (N : Int)] w fun e w' => e = .returned (.string (strOf (num N))) ∧ Below w.heap.size w w' := by
  obtain ⟨i0, hi0, hz0, hz1, hz2⟩ := info_parts info_u8
  have HI0 := Lib.hid hi0
  have HZ0 := Lib.hid hz0
  have HZ1 := Lib.hid hz1
  have HZ2 := Lib.hid hz2
  clear hi0 hz0 hz1 hz2
  go_enter Try.func49, Try.ntmps49
  go_wp2
  go_loopg [0, 3] (N + 1) (fun gk s0 s3 wr => ∃ (n : Nat) (l : List Nat) (A : Option Addr) (c : Nat), gk = n + 1 ∧ n ≤ N ∧ Hid (∃ f, l.length + f ≤ 8 ∧ n < 128 ^ (f + 1)) ∧ s0 = .int .i64 ((n : Nat) : Int) ∧ s3 = .slice A l.length c ∧ Hid (Mine w wr 1 (.slice A l.length c) l.length (u8c l)) ∧ Hid (Below w.heap.size w wr) ∧ Hid (l ++ num n = num N))
  case atStart => exact ⟨N, [], none, 0, rfl, Nat.le_refl _, Lib.hid ⟨7, by simp, by omega⟩, rfl, rfl, Lib.hid (Mine.empty _ _ _ _), Lib.hid (Below.refl _ _), Lib.hid rfl⟩
  case round =>
    obtain ⟨n, l, A, c, rfl, hn, hll, rfl, rfl, hm, hb, E⟩ := hrel
    have n0 : (0 : Int) ≤ (n : Int) := by omega
    obtain ⟨m, hmm⟩ : ∃ m, Hid (l.length = m) := ⟨_, Lib.hid rfl⟩
    rw [hmm.out] at hm ⊢
    have hmb : m ≤ 8 := by obtain ⟨f, h1, _⟩ := hll.out; rw [← hmm.out]; omega
    by_cases hlt : n < 128
    · have hltI : ¬ (127 : Int) < (n : Int) := by omega
      have E2 : Hid (l ++ [n] = num N) := Lib.hid (by rw [← E.out, num_small hlt])
      have hw8 : IntKind.u8.wrap (n : Int) = (n : Int) := by rw [IntKind.wrap_u8]; omega
      have hcv : Hid (∀ w1 A c, Mine w w1 1 (.slice A (m + 1) c) (m + 1) (u8c l ++ [.int .u8 (n : Int)]) → (convert 82 9 (.slice A (m + 1) c)).run Try.prog w1 = .ok (.string (strOf (num N))) w1) := Lib.hid fun w1 A c h => by
        rw [show u8c l ++ [.int .u8 (n : Int)] = u8c (num N) from by rw [← E2.out, u8c_append]; rfl] at h
        have hlen : (num N).length = m + 1 := by rw [← E2.out, List.length_append, hmm.out]; rfl
        obtain ⟨A', c', e, _, _, hr⟩ := h.row
        cases e
        rw [Nat.mul_one] at hr
        obtain ⟨pb, po, rfl, -, -⟩ := Row.at_ hr (by omega : 0 < m + 1)
        refine run_convert_bytes_arg (P := Try.prog) w1 82 5 (by kernel_rfl) (by kernel_rfl) pb po (m + 1) c ((num N).map fun (n : Nat) => (n : Int)) (by simp [hlen]) (fun i hi => ?_) 9 (by kernel_rfl)
        obtain ⟨b', o', e, _, h2⟩ := Row.at_ hr hi
        cases e
        rw [h2]
        simp [u8c, List.getD_eq_getElem?_getD, hlen, hi]
      obtain ⟨str, hstr⟩ : ∃ str, Hid (strOf (num N) = str) := ⟨_, Lib.hid rfl⟩
      rw [hstr.out] at hcv
      clear hlt
      go_wp2_with (first
        | (refine wpList_append_mine rfl (.tmp 15) (.tmp 18) 82 82 rfl 5 i0 (.int .u8 0) 1 Try.underlying82 HI0.out HZ0.out HZ1.out HZ2.out rfl (by decide) rfl (hm.out.alloc _) (hb.out.alloc hb.out.size _) _ 1 [.int .u8 (n : Int)] rfl (src_new Try.underlying82 _ _ _ 1 1 rfl (by simp [Value.oneCell'])) (by unfold maxLen; omega) (by omega) ?_; intro A2 c2 w2 hm2 hb2; have hv := hcv.out _ _ _ hm2; have HB2 := Lib.hid hb2; clear hm2 hb2))
      go_ret
      exact ⟨by rw [hstr.out]; rfl, HB2.out⟩
    · have hltI : (127 : Int) < (n : Int) := by omega
      have e1 : (n : Int).tmod 128 = ((n % 128 : Nat) : Int) := by rw [Int.tmod_eq_emod_of_nonneg n0]; omega
      obtain ⟨y, hy⟩ : ∃ y, Hid (n % 128 + 128 = y) := ⟨_, Lib.hid rfl⟩
      obtain ⟨r, hr⟩ : ∃ r, Hid (n % 128 = r) := ⟨_, Lib.hid rfl⟩
      have hyb : y < 256 := by rw [← hy.out]; omega
      rw [hr.out] at e1
      have e2 : IntKind.i64.wrap (128 + (r : Int)) = (y : Int) := by rw [IntKind.wrap_i64, ← hy.out, hr.out]; have := hr.out; omega
      have hw8 : IntKind.u8.wrap (y : Int) = (y : Int) := by rw [IntKind.wrap_u8]; omega
      obtain ⟨d, hd⟩ : ∃ d, Hid (n / 128 = d) := ⟨_, Lib.hid rfl⟩
      have hsh : (n : Int).tdiv 128 = (d : Int) := by rw [Int.tdiv_eq_ediv_of_nonneg n0, ← hd.out]; omega
      have hdn : Hid (d < n) := Lib.hid (by rw [← hd.out]; omega)
      have hdw : IntKind.i64.wrap (d : Int) = (d : Int) := by rw [IntKind.wrap_i64]; have := hdn.out; omega
      have E2 : Hid ((l ++ [y]) ++ num d = num N) := Lib.hid (by rw [← E.out, num_big hlt, hy.out, hd.out, List.append_assoc]; rfl)
      have hll2 : Hid (∃ f, (l ++ [y]).length + f ≤ 8 ∧ d < 128 ^ (f + 1)) := Lib.hid (by
        rw [← hd.out]
        obtain ⟨f, h1, h2⟩ := hll.out
        cases f with
        | zero => exact absurd (show n < 128 from h2) hlt
        | succ f =>
          refine ⟨f, by rw [List.length_append, List.length_singleton]; omega, ?_⟩
          rw [Nat.div_lt_iff_lt_mul (by omega)]
          rw [Nat.pow_succ] at h2
          exact h2)
      clear hlt
      go_wp2_with (first
        | (refine wpList_append_mine rfl (.tmp 6) (.tmp 11) 82 82 rfl 5 i0 (.int .u8 0) 1 Try.underlying82 HI0.out HZ0.out HZ1.out HZ2.out rfl (by decide) rfl (hm.out.alloc _) (hb.out.alloc hb.out.size _) _ 1 [.int .u8 (y : Int)] rfl (src_new Try.underlying82 _ _ _ 1 1 rfl (by simp [Value.oneCell'])) (by unfold maxLen; omega) (by omega) ?_; intro A2 c2 w2 hm2 hb2; have HM2 := Lib.hid hm2; have HB2 := Lib.hid hb2; clear hm2 hb2))
      go_roundg (d + 1)
      case measure => have := hdn.out; omega
      case rel =>
        have hl1 : (l ++ [y]).length = m + 1 := by rw [List.length_append, hmm.out]; rfl
        exact ⟨d, l ++ [y], A2, c2, rfl, by have := hdn.out; omega, hll2, by first | rfl | go_num, by rw [hl1], Lib.hid (by rw [hl1, u8c_append]; exact HM2.out), HB2, E2⟩
end Go.Proofs.Ytccmafmeblojpaa
