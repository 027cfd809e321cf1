/- The walk of ClockReads: any bytes are an auction's just if they are such as one can have; then they are its bytes. -/
import Derived.Test.YtccmafmeblojpaaTk
import Derived.Test.YtccmafmeblojpaaAwake
namespace Go.Proofs.Ytccmafmeblojpaa
open Go.RowKit
set_option linter.unusedVariables false
set_option linter.unusedSimpArgs false
theorem tk_true {w w' : World} {s : ByteArray} {e : Ending} (h : TkTo w s e w') (hT : Taken s) : e = .returned (.bool true) ∧ Below w.heap.size w w' := by
  obtain ⟨⟨b, h1, h2⟩, h3⟩ := h
  rw [h2.2 hT] at h1
  exact ⟨h1, h3⟩
theorem tk_false {w w' : World} {s : ByteArray} {e : Ending} (h : TkTo w s e w') (hT : ¬ Taken s) : e = .returned (.bool false) ∧ Below w.heap.size w w' := by
  obtain ⟨⟨b, h1, h2⟩, h3⟩ := h
  cases b with
  | true => exact (hT (h2.1 rfl)).elim
  | false => exact ⟨h1, h3⟩
set_option maxHeartbeats 4000000 in
theorem ClockReads_walk (s : ByteArray) (hs : s.size ≤ 140737488351232) (w : World) :
    Calls Try.prog 11 #[.string s] w fun e w' => e = .returned (.bool true) ∧ Below w.heap.size w w' := by
  have HT := Lib.hid (fun wx => rtaken_calls wx s hs)
  by_cases hT : Taken s
  · have HT1 := Lib.hid (fun wx => (HT.out wx).mono fun e w' h => tk_true h hT)
    obtain ⟨a, hr, hsa⟩ := hT
    have HO := Lib.hid (of_calls w a hr)
    rw [← hsa] at HO
    have HS := Lib.hid hsa
    clear hr hsa HT hs
    go_enter Try.func11, Try.ntmps11
    go_wp2_with (first
      | (go_at_call 34; (with_reducible refine (HO.out).mono ?_); rintro e w1 hO; obtain ⟨g, gl, rfl, h1⟩ := hO; have H1 := Lib.hid h1; clear h1)
      | (go_at_call 35; (with_reducible refine (HT1.out _).mono ?_); rintro e w2 ⟨rfl, hh⟩; have H2 := Lib.hid (H1.out.below hh); clear hh)
      | (go_at_call 28; (with_reducible refine (bytes_calls _ g gl a H2.out.at_).mono ?_); rintro e w3 ⟨rfl, hh⟩; have H3 := Lib.hid (H2.out.below hh); clear hh; rw [← HS.out])
      | (go_at_call 14; (with_reducible refine (awake_calls _).mono ?_); rintro e w4 ⟨rfl, hh⟩; have H4 := Lib.hid (H3.out.below hh); clear hh))
    go_ret
    exact ⟨rfl, H4.out.all⟩
  · have HT1 := Lib.hid (fun wx => (HT.out wx).mono fun e w' h => tk_false h hT)
    have HO := Lib.hid (of_bad w s hs hT)
    clear hT HT hs
    go_enter Try.func11, Try.ntmps11
    go_wp2_with (first
      | (go_at_call 34; (with_reducible refine (HO.out).mono ?_); rintro e w1 ⟨rfl, hh⟩; have H1 := Lib.hid hh; clear hh)
      | (go_at_call 35; (with_reducible refine (HT1.out _).mono ?_); rintro e w2 ⟨rfl, hh⟩; have H2 := Lib.hid (below_next H1.out hh); clear hh)
      | (go_at_call 14; (with_reducible refine (awake_calls _).mono ?_); rintro e w4 ⟨rfl, hh⟩; have H4 := Lib.hid (below_next H2.out hh); clear hh))
    go_ret
    exact ⟨rfl, H4.out⟩
end Go.Proofs.Ytccmafmeblojpaa
