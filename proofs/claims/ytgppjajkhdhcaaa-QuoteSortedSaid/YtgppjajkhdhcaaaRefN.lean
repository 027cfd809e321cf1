/- The reference's Numbers and Median. -/
import Derived.Test.YtgppjajkhdhcaaaRefS
namespace Go.Proofs.Ytgppjajkhdhcaaa
open Go.RowKit
namespace Fl
theorem nums_snoc (l : List Nat) (x : Nat) : nums (l ++ [x]) = if Nan x then nums l else nums l ++ [x] := by
  unfold nums
  rw [List.filter_append]
  by_cases h : Nan x
  · rw [if_pos h, List.filter_cons_of_neg (by simp [h])]; simp
  · rw [if_neg h, List.filter_cons_of_pos (by simp [h])]; simp
theorem md_val (s : List Nat) (h : s.length ≠ 0) (h1 : s.length % 2 = 1) : med s = s.getD (s.length / 2) 0 := by unfold med; rw [if_neg h, if_pos h1]
theorem md_two (s : List Nat) (h : s.length ≠ 0) (h1 : ¬ s.length % 2 = 1) : med s = md (s.getD (s.length / 2 - 1) 0) (s.getD (s.length / 2) 0) := by unfold med; rw [if_neg h, if_neg h1]
end Fl
set_option maxHeartbeats 2000000 in
theorem refnums_calls (w : World) (A : Option Addr) (c n : Nat) (L : List Nat) (hn : L.length = n) (hm : n ≤ 300) (hb : ∀ x ∈ L, x < 18446744073709551616) (hA : FRow w A L) :
    Calls Try.prog 11 #[.slice A n c] w fun e w' => ∃ B d, e = .returned (.slice B (Fl.nums L).length d) ∧ Mine w w' 1 (.slice B (Fl.nums L).length d) (Fl.nums L).length (fcells (Fl.srt (Fl.nums L))) ∧ Below w.heap.size w w' := by
  have HA := Lib.hid hA
  have HN := Lib.hid hn
  have HB := Lib.hid hb
  clear hA hn hb
  obtain ⟨i1, hi1, hy0, hy1, hy2⟩ := info_parts info_float
  have HI1 := Lib.hid hi1
  have HY0 := Lib.hid hy0
  have HY1 := Lib.hid hy1
  have HY2 := Lib.hid hy2
  clear hi1 hy0 hy1 hy2
  go_enter Try.func11, Try.ntmps11
  go_wp2
  go_loopg [3, 4] (n + 1) (fun gk s3 s4 wr => ∃ i B d, gk = n + 1 - i ∧ i ≤ n ∧ s4 = .int .i64 (i : Int) ∧ s3 = .slice B (Fl.nums (L.take i)).length d ∧ Hid (Mine w wr 1 (.slice B (Fl.nums (L.take i)).length d) (Fl.nums (L.take i)).length (fcells (Fl.nums (L.take i)))) ∧ Hid (Below w.heap.size w wr))
  case atStart => exact ⟨0, none, 0, rfl, Nat.zero_le _, rfl, rfl, Lib.hid (Mine.empty _ _ _ _), Lib.hid (Below.refl _ _)⟩
  case round =>
    obtain ⟨i, B, d, rfl, hi, rfl, rfl, hmn, hbl⟩ := hrel
    have i0 : (0 : Int) ≤ (i : Int) := by omega
    by_cases hlt : i < n
    · have hltI : (i : Int) < (n : Int) := by omega
      have hl : i < L.length := by rw [HN.out]; exact hlt
      obtain ⟨ba, oa, rfl⟩ := HA.out.some hl
      have c1 : wr.cell? ⟨ba, oa + i, none⟩ = some (.float .f64 (L.getD i 0)) := by
        obtain ⟨b', o', e, h1, h2⟩ := Row.at_ HA.out hl
        cases e; exact (below_cell hbl.out h1).trans h2
      have hsn : Hid (Fl.nums (L.take (i + 1)) = if Fl.Nan (L.getD i 0) then Fl.nums (L.take i) else Fl.nums (L.take i) ++ [L.getD i 0]) := Lib.hid (by rw [take_snoc hl, Fl.nums_snoc])
      have hSl : (Fl.nums (L.take i)).length ≤ 300 := by have := Fl.nums_length (L.take i); rw [List.length_take] at this; omega
      obtain ⟨S, hS⟩ : ∃ S, Fl.nums (L.take i) = S := ⟨_, rfl⟩
      rw [hS] at hsn hSl hmn ⊢
      generalize L.getD i 0 = y at c1 hsn
      obtain ⟨m, hm⟩ : ∃ m, S.length = m := ⟨_, rfl⟩
      rw [hm] at hSl hmn ⊢
      have HMM := Lib.hid hm
      clear hS hl hm
      by_cases hny : Fl.Nan y
      · have hv := Lib.hid (decide_eq_true hny)
        rw [if_pos hny] at hsn
        clear hny
        go_wp2_with (first | (go_at_call 25; (with_reducible refine (none_calls _ _ _ hv.out).mono ?_); rintro e w1 ⟨rfl, rfl⟩))
        go_roundg (n + 1 - (i + 1))
        case measure => omega
        case rel => exact ⟨i + 1, B, d, rfl, by omega, by go_num, by rw [hsn.out, HMM.out], by rw [hsn.out, HMM.out]; exact hmn, hbl⟩
      · have hv := Lib.hid (decide_eq_false hny)
        rw [if_neg hny] at hsn
        clear hny
        go_wp2_with (first
          | (go_at_call 25; (with_reducible refine (none_calls _ _ _ hv.out).mono ?_); rintro e w1 ⟨rfl, rfl⟩)
          | (refine wpList_append_mine rfl (.tmp 17) (.tmp 22) 22 22 rfl 25 i1 (.float .f64 0) 8 Try.underlying22 HI1.out HY0.out HY1.out HY2.out rfl (by decide) rfl (hmn.out.alloc _) (hbl.out.alloc hbl.out.size _) _ 1 [.float .f64 y] rfl (src_new Try.underlying22 _ _ _ 1 1 rfl (by simp [Value.oneCell'])) (by unfold maxLen; omega) (by omega) ?_; intro A3 c3 w3 hm3 hb3))
        have hlen : Hid ((Fl.nums (L.take (i + 1))).length = m + 1) := Lib.hid (by rw [hsn.out, List.length_append, HMM.out]; rfl)
        go_roundg (n + 1 - (i + 1))
        case measure => omega
        case rel =>
          refine ⟨i + 1, A3, c3, rfl, by omega, by go_num, by rw [hlen.out], Lib.hid ?_, Lib.hid hb3⟩
          rw [hlen.out, hsn.out, fcells_append]
          exact hm3
    · obtain rfl : i = n := by omega
      rw [List.take_of_length_le (by rw [HN.out]; exact Nat.le_refl _)] at hmn ⊢
      have hSl : (Fl.nums L).length ≤ 300 := by have := Fl.nums_length L; rw [HN.out] at this; omega
      have hSb : ∀ x ∈ Fl.nums L, x < 18446744073709551616 := fun x hx => HB.out x (Fl.nums_mem.1 hx).1
      obtain ⟨S, hS⟩ : ∃ S, Fl.nums L = S := ⟨_, rfl⟩
      rw [hS] at hmn hSl hSb ⊢
      have HC := Lib.hid (fun w1 (h : FRow w1 B S) => refsorted_calls w1 B d S.length S rfl hSl hSb h)
      obtain ⟨m, hm⟩ : ∃ m, S.length = m := ⟨_, rfl⟩
      rw [hm] at hmn HC hSl ⊢
      have HS := Lib.hid hS
      have HMM := Lib.hid hm
      clear hS hm hSb hlt
      go_wp2_with (first | (go_at_call 7; (with_reducible refine (HC.out _ hmn.out.frow).mono ?_); rintro e w1 ⟨C, f, rfl, h1, h2⟩))
      go_ret
      rw [HS.out, HMM.out]
      exact ⟨C, f, rfl, h1.base hbl.out.size, hbl.out.trans (h2.mono hbl.out.size)⟩
theorem nan_calls (w : World) : Calls Try.prog 28 #[] w fun e w' => e = .returned (.float .f64 Fl.N1) ∧ w = w' := by
  have hf := fun (n : Int) (w : World) => from_run n w
  go_enter Try.func28, Try.ntmps28
  go_wp2
  go_ret
  exact ⟨rfl, rfl⟩
set_option maxHeartbeats 2000000 in
theorem refmedian_calls (w : World) (A : Option Addr) (c n : Nat) (L : List Nat) (hn : L.length = n) (hm : n ≤ 300) (hb : ∀ x ∈ L, x < 18446744073709551616) (hA : FRow w A L) :
    Calls Try.prog 13 #[.slice A n c] w fun e w' => e = .returned (.float .f64 (Fl.med (Fl.srt (Fl.nums L)))) ∧ Below w.heap.size w w' := by
  have hSl : (Fl.nums L).length ≤ 300 := by have := Fl.nums_length L; omega
  have HC := Lib.hid (refnums_calls w A c n L hn hm hb hA)
  have hlen : (Fl.srt (Fl.nums L)).length = (Fl.nums L).length := Fl.srt_length _
  obtain ⟨S, hS⟩ : ∃ S, Fl.srt (Fl.nums L) = S := ⟨_, rfl⟩
  rw [hS] at hlen HC ⊢
  rw [← hlen] at HC hSl
  obtain ⟨m, hmm⟩ : ∃ m, S.length = m := ⟨_, rfl⟩
  rw [hmm] at HC hSl
  have e0 := fun h0 : S.length = 0 => show Fl.med S = Fl.N1 by unfold Fl.med; rw [if_pos h0]
  have e1 := Fl.md_val S
  have e2 := Fl.md_two S
  rw [hmm] at e0 e1 e2
  have HM := Lib.hid hmm
  clear hS hlen hmm hA hb hn hm
  by_cases hm0 : m = 0
  · have E := Lib.hid (e0 hm0)
    subst hm0
    rw [E.out]
    clear e0 e1 e2
    go_enter Try.func13, Try.ntmps13
    go_wp2_with (first
      | (go_at_call 11; (with_reducible refine HC.out.mono ?_); rintro e w1 ⟨B, d, rfl, h1, h2⟩; have h3 := Lib.hid h2; clear h1 h2)
      | (go_at_call 28; (with_reducible refine (nan_calls _).mono ?_); rintro e w2 ⟨rfl, rfl⟩))
    go_ret
    exact ⟨rfl, h3.out⟩
  · have hmI : ¬ ((m : Int) = 0) := by omega
    have hmb : ((m : Int) == 0) = false := by simpa using hmI
    have hq : (m : Int).tdiv 2 = ((m / 2 : Nat) : Int) := rfl
    have hr : (m : Int).tmod 2 = ((m % 2 : Nat) : Int) := rfl
    obtain ⟨q, hqq⟩ : ∃ q, m / 2 = q := ⟨_, rfl⟩
    obtain ⟨r, hrr⟩ : ∃ r, m % 2 = r := ⟨_, rfl⟩
    rw [hqq] at hq e1 e2
    rw [hrr] at hr e1 e2
    have hql : q < m := by omega
    have hqI : (q : Int) < (m : Int) := by omega
    have q0 : (0 : Int) ≤ (q : Int) := by omega
    have hcell : Hid (∀ w1 B, FRow w1 B S → ∃ b o, B = some ⟨b, o, none⟩ ∧ w1.cell? ⟨b, o + q, none⟩ = some (.float .f64 (S.getD q 0))) := Lib.hid fun w1 B h => by
      obtain ⟨b, o, rfl⟩ := h.some (i := q) (by rw [HM.out]; exact hql)
      exact ⟨b, o, rfl, h.cell (by rw [HM.out]; exact hql)⟩
    by_cases hr1 : r = 1
    · have E := Lib.hid (e1 hm0 hr1)
      rw [E.out]
      have hrI : ((r : Int) == 1) = true := by simp; omega
      have hrJ : (r : Int) = 1 := by omega
      clear e0 e1 e2 hqq hrr
      go_enter Try.func13, Try.ntmps13
      go_upto_region 2 with (first
        | (go_at_call 11; (with_reducible refine HC.out.mono ?_); rintro e w1 ⟨B, d, rfl, h1, h2⟩; have h3 := Lib.hid h2; have h4 := Lib.hid h1.frow; clear h1 h2))
      obtain ⟨b, o, rfl, c1⟩ := hcell.out _ _ h4.out
      obtain ⟨y, hy⟩ : ∃ y, Hid (S.getD q 0 = y) := ⟨_, Lib.hid rfl⟩
      rw [hy.out] at c1
      clear hcell E
      go_wp2
      go_ret
      rw [hy.out]
      exact ⟨rfl, h3.out⟩
    · have E := Lib.hid (e2 hm0 hr1)
      rw [E.out]
      have hr0 : r = 0 := by omega
      subst hr0
      have hp : (0 : Int) ≤ (q : Int) - 1 := by omega
      have hp2 : (q : Int) - 1 < (m : Int) := by omega
      have hp3 : ((q : Int) - 1).toNat = q - 1 := by omega
      have hp4 : IntKind.i64.wrap ((q : Int) - 1) = (q : Int) - 1 := by rw [IntKind.wrap_i64]; omega
      have hp5 : (1 : Int) ≤ (q : Int) := by omega
      have hcell2 : Hid (∀ w1 b o, FRow w1 (some ⟨b, o, none⟩) S → w1.cell? ⟨b, o + (q - 1), none⟩ = some (.float .f64 (S.getD (q - 1) 0))) := Lib.hid fun w1 b o h => h.cell (by rw [HM.out]; omega)
      have HMd := Lib.hid (fun w => refMid_calls (S.getD (q - 1) 0) (S.getD q 0) w _ (Lib.hid rfl))
      clear e0 e1 e2 hqq hrr hr1
      go_enter Try.func13, Try.ntmps13
      go_upto_region 2 with (first
        | (go_at_call 11; (with_reducible refine HC.out.mono ?_); rintro e w1 ⟨B, d, rfl, h1, h2⟩; have h3 := Lib.hid h2; have h4 := Lib.hid h1.frow; clear h1 h2))
      obtain ⟨b, o, rfl, c1⟩ := hcell.out _ _ h4.out
      have c2 := hcell2.out _ _ _ h4.out
      obtain ⟨v, hmv⟩ : ∃ v, Hid (Fl.md (S.getD (q - 1) 0) (S.getD q 0) = v) := ⟨_, Lib.hid rfl⟩
      rw [hmv.out] at HMd
      have hmv2 : Hid (∀ u : Nat, u = v → Fl.md (S.getD (q - 1) 0) (S.getD q 0) = u) := Lib.hid fun u hu => hmv.out.trans hu.symm
      generalize S.getD q 0 = y at c1 HMd
      generalize S.getD (q - 1) 0 = x at c2 HMd
      clear hcell hcell2 E hmv
      go_upto_region 7 with (fail)
      go_quiet ((go_at_call 29; (with_reducible refine (HMd.out _).mono ?_); rintro e w' ⟨rfl, nd, rfl⟩; first | exact ⟨rfl, _, World.drewN_drewN _ _ _⟩ | exact ⟨rfl, _, rfl⟩))
      go_wp2
      go_ret
      rw [hmv2.out v rfl]
      exact ⟨rfl, below_draw h3.out _⟩
end Go.Proofs.Ytgppjajkhdhcaaa
