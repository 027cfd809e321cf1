/- The walk of CallAgain: behind a clearing nothing more can be traded. -/
import Derived.Test.YtilbhnloelgpdaaBytes
import Derived.Test.YtilbhnloelgpdaaBal
import Derived.Test.YtilbhnloelgpdaaBegun
namespace Go.Proofs.Ytilbhnloelgpdaa
open Go.RowKit
set_option linter.unusedVariables false
set_option linter.unusedSimpArgs false
theorem Bw.bytes {w0 w : World} {g : Nat} {b : Bk} (h : Bw w0 w g b) : Calls Try.prog 31 #[.pointer (some ⟨g, 0, none⟩)] w fun e w' => e = .returned (.string b.bytes) ∧ Below w.heap.size w w' := by
  obtain ⟨gl, h1, h2, h3, h4⟩ := h
  exact bytes_calls w g gl b h1
set_option maxHeartbeats 8000000 in
set_option maxRecDepth 100000 in
theorem CallAgain_walk (W : World) (A : Option Addr) (len c : Nat) (L : List SAct) (hlen : L.length = len) (hlc : len ≤ c) (hcm : c ≤ maxLen) (h : SRow W A L) :
    Calls Try.prog 10 #[.slice A len c] W fun e w' => e = .returned (.bool true) ∧ Below W.heap.size W w' := by
  have HBe : Hid (Calls Try.prog 22 #[.slice A len c] W (Begins W (Bk.run L))) := Lib.hid (by
    have := begun_calls W A L c h (by unfold maxLen at hcm; omega)
    rwa [hlen] at this)
  have hok := Bk.run_ok L
  have HAw := Lib.hid (fun wx => awake_calls wx)
  clear h hlen hlc hcm
  generalize Bk.run L = B at HBe hok
  have hst := Bk.clear_still hok
  have HC1 := Lib.hid (fun w g (h : Bw W w g B) => h.clear)
  have HC2 : Hid (∀ w g, Bw W w g B.clear.1 → Calls Try.prog 24 #[.pointer (some ⟨g, 0, none⟩)] w fun e w' => ∃ A c, e = .returned (.tuple #[.int .i64 0, .int .i64 0, .slice A 0 c]) ∧ Bw W w' g B.clear.1) := Lib.hid fun w g h => by
    have := h.clear
    rw [hst] at this
    exact this.mono fun e w' ⟨A, c, h1, _, h2⟩ => ⟨A, c, h1, h2⟩
  generalize B.clear = C at HC1 HC2
  obtain ⟨C1, ⟨P, N⟩, F⟩ := C
  simp only at HC1 HC2
  have HBy := Lib.hid (fun w g (h : Bw W w g C1) => h.bytes)
  generalize C1.bytes = s at HBy
  clear hst hok
  go_enter Try.func10, Try.ntmps10
  go_upto_region 2 with (go_at_call 22; (with_reducible refine HBe.out.mono ?_); rintro e w1 ⟨g, rfl, hh⟩; have H1 := Lib.hid hh; clear hh)
  go_upto_region 3 with (go_at_call 24; (with_reducible refine (HC1.out _ _ H1.out).mono ?_); rintro e w2 ⟨A2, c2, rfl, _, hh⟩; have H2 := Lib.hid hh; clear hh)
  go_upto_region 4 with (go_at_call 31; (with_reducible refine (HBy.out _ _ H2.out).mono ?_); rintro e w3 ⟨rfl, hh⟩; have H3 := Lib.hid (H2.out.below hh); clear hh)
  go_upto_region 5 with (go_at_call 24; (with_reducible refine (HC2.out _ _ H3.out).mono ?_); rintro e w4 ⟨A4, c4, rfl, hh⟩; have H4 := Lib.hid hh; clear hh)
  go_wp2_with (first
    | (go_at_call 31; (with_reducible refine (HBy.out _ _ H4.out).mono ?_); rintro e w5 ⟨rfl, hh⟩; have H5 := Lib.hid (H4.out.below hh); clear hh)
    | (go_at_call 20; (with_reducible refine (HAw.out _).mono ?_); rintro e w6 ⟨rfl, hh⟩; have HBz := Lib.hid (below_next H5.out.all hh); clear hh))
  refine bodyPost_ret (by simp [results, Try.results10, asAddr, go_sem]; rfl) rfl ?_
  exact ⟨rfl, HBz.out⟩
end Go.Proofs.Ytilbhnloelgpdaa
