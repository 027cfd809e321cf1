/- numbers, Best and Median of the program. -/
import Derived.Test.YtgppjajkhdhcaaaSorted
namespace Go.Proofs.Ytgppjajkhdhcaaa
open Go.RowKit
set_option maxHeartbeats 2000000 in
theorem qnumbers_calls (w : World) (A : Option Addr) (c n : Nat) (L : List Nat) (hn : L.length = n) (hm : n ≤ 300) (hb : ∀ x ∈ L, x < 18446744073709551616) (hA : FRow w A L) :
    Calls Try.prog 24 #[.slice A n c] w fun e w' => ∃ B d, e = .returned (.slice B (Fl.nums L).length d) ∧ FRow w' B (Fl.srt (Fl.nums L)) ∧ Below w.heap.size w w' := by
  have HC := Lib.hid (sorted_calls w A c n L hn hm hb hA)
  have hsp := Fl.srt_split hb
  have hml := Fl.nums_length L
  rw [hn] at hsp hml
  have hpl : (Fl.srt (Fl.nums L)).length = (Fl.nums L).length := Fl.srt_length _
  have hpn := Fl.srt_nums_not (l := L)
  obtain ⟨P, hP⟩ : ∃ P, Fl.srt (Fl.nums L) = P := ⟨_, rfl⟩
  obtain ⟨m, hmm⟩ : ∃ m, (Fl.nums L).length = m := ⟨_, rfl⟩
  rw [hP, hmm] at hsp
  rw [hP] at hpn
  rw [hP, hmm] at hpl
  rw [hmm] at hml
  rw [hP, hmm]
  have hlow : Hid (∀ i, i < m → (Fl.srt L).getD i 0 = P.getD i 0 ∧ ¬ Fl.Nan (P.getD i 0)) := Lib.hid fun i hi => by
    rw [hsp]
    refine ⟨?_, hpn _ (getD_mem (by omega))⟩
    simp only [List.getD_eq_getElem?_getD]
    rw [List.getElem?_append_left (by omega)]
  have hhigh : Hid (∀ i, m ≤ i → i < n → (Fl.srt L).getD i 0 = Fl.N1) := Lib.hid fun i hi hin => by
    rw [hsp]
    simp only [List.getD_eq_getElem?_getD]
    rw [List.getElem?_append_right (by omega), List.getElem?_replicate, if_pos (by omega)]; rfl
  have hsl : (Fl.srt L).length = n := by rw [Fl.srt_length, hn]
  have htk : (Fl.srt L).take m = P := by rw [hsp, ← hpl, List.take_left]
  obtain ⟨S, hS⟩ : ∃ S, Fl.srt L = S := ⟨_, rfl⟩
  rw [hS] at hlow hhigh hsl HC htk
  have HSL := Lib.hid hsl
  have HTK := Lib.hid htk
  clear hsp hpl hpn hP hmm hS hsl htk hA hb hn
  go_enter Try.func24, Try.ntmps24
  go_upto_region 2 with (first | (go_at_call 6; (with_reducible refine HC.out.mono ?_); rintro e w1 ⟨B, d, rfl, h1, h2⟩))
  have hF := Lib.hid h1.frow
  have hbl := Lib.hid h2
  have hnd : n ≤ d := by
    obtain ⟨_, _, e, h, _⟩ := h1.row
    cases e; exact h
  clear h1 h2 HC
  go_loopg [3] (n + 1) (fun gk s3 wr => ∃ i, gk = i + 1 ∧ m ≤ i ∧ i ≤ n ∧ s3 = .slice B i d ∧ Hid (∃ q, wr = w1.drewN q))
  case atStart => exact ⟨n, rfl, hml, Nat.le_refl _, rfl, Lib.hid ⟨0, rfl⟩⟩
  case round =>
    obtain ⟨i, rfl, hmi, hi, rfl, hw⟩ := hrel
    by_cases h0 : 0 < i
    · have h0I : (0 : Int) < (i : Int) := by omega
      have hp : (0 : Int) ≤ (i : Int) - 1 := by omega
      have hp2 : (i : Int) - 1 < (i : Int) := by omega
      have hp3 : ((i : Int) - 1).toNat = i - 1 := by omega
      have hp4 : IntKind.i64.wrap ((i : Int) - 1) = (i : Int) - 1 := by rw [IntKind.wrap_i64]; omega
      have hp5 : (1 : Int) ≤ (i : Int) := by omega
      have hl : i - 1 < S.length := by rw [HSL.out]; omega
      obtain ⟨b, o, rfl⟩ := hF.out.some hl
      have c1 : wr.cell? ⟨b, o + (i - 1), none⟩ = some (.float .f64 (S.getD (i - 1) 0)) := by
        obtain ⟨q, rfl⟩ := hw.out
        exact hF.out.cell hl
      by_cases him : i = m
      · subst him
        have hv : Hid (¬ Fl.Nan (S.getD (i - 1) 0)) := Lib.hid (by obtain ⟨e1, e2⟩ := hlow.out (i - 1) (by omega); rw [e1]; exact e2)
        generalize S.getD (i - 1) 0 = y at c1 hv
        have hne : (FloatKind.f64.format.order y y != some .eq) = false := by rw [Fl.neq_self]; exact decide_eq_false hv.out
        clear hl
        go_wp2
        go_quiet (fail)
        go_wp2
        go_ret
        obtain ⟨q, rfl⟩ := hw.out
        refine ⟨_, d, rfl, ?_, below_draw (below_draw hbl.out _) _⟩
        have := hF.out.take i
        rw [HTK.out] at this
        exact this
      · have hv : Hid (S.getD (i - 1) 0 = Fl.N1) := Lib.hid (hhigh.out (i - 1) (by omega) (by omega))
        have hne : (FloatKind.f64.format.order (S.getD (i - 1) 0) (S.getD (i - 1) 0) != some .eq) = true := by rw [hv.out, Fl.neq_self]; exact decide_eq_true Fl.N1_nan
        generalize S.getD (i - 1) 0 = y at c1 hne
        clear hl hv
        go_wp2
        go_quiet (fail)
        go_wp2
        go_roundg (i - 1 + 1)
        case measure => omega
        case rel => exact ⟨i - 1, rfl, by omega, by omega, by first | rfl | go_num, Lib.hid (by obtain ⟨q, rfl⟩ := hw.out; exact ⟨_, World.drewN_drewN _ _ _⟩)⟩
    · obtain rfl : i = 0 := by omega
      obtain rfl : m = 0 := by omega
      have hd : decide ((0 : Int) < 0) = false := by decide
      go_wp2
      go_quiet (fail)
      go_wp2
      go_ret
      obtain ⟨q, rfl⟩ := hw.out
      refine ⟨_, d, rfl, ?_, below_draw (below_draw hbl.out _) _⟩
      have := hF.out.take 0
      rw [HTK.out] at this
      exact this
end Go.Proofs.Ytgppjajkhdhcaaa
