/- Cancel. -/
import Derived.Test.YtilbhnloelgpdaaAwake
namespace Go.Proofs.Ytilbhnloelgpdaa
open Go.RowKit
set_option linter.unusedVariables false
set_option linter.unusedSimpArgs false
theorem keep_box {w w1 : World} {g : Nat} {gl : Option Nat} {t : TypeId} {cs : Array Value} (h : Blk w g t cs) (ho : Only (fun k => some k = gl) w w1) (hg : gl ≠ some g) : Blk w1 g t cs := by
  have e := ho.block g h.lt fun e => hg e.symm
  unfold Blk at h ⊢
  rw [e]; exact h
set_option maxHeartbeats 4000000 in
set_option maxRecDepth 100000 in
theorem cancel_calls (w : World) (g : Nat) (gl : Option Nat) (b : Bk) (h : AtB w g gl b) (id owner : Int) : Calls Try.prog 33 #[.pointer (some ⟨g, 0, none⟩), .int .i64 id, .int .i64 owner] w fun e w' => e = .returned (.int .i64 (b.cancel id owner).2) ∧ Turns w w' g gl (b.cancel id owner).1 := by
  have H := Lib.hid h
  have HMi := Lib.hid (mine_calls w g gl b h id owner)
  have hok := Lib.hid (Bk.cancel_ok h.ok id owner)
  by_cases hz : (b.mine id owner).2 = 0
  · obtain ⟨hi, _, he⟩ := Bk.mine_zero hz
    have hE : Hid (b.cancel id owner = (⟨b.l.eraseIdx (Bk.ix b.l id), b.next⟩, 0)) := Lib.hid (by unfold Bk.cancel; rw [if_neg (by rw [hz]; simp)])
    rw [he] at HMi
    rw [hE.out] at hok ⊢
    obtain ⟨A, c, hB, hO⟩ := h.box
    have HB := Lib.hid hB
    have hfew := h.ok.few
    obtain ⟨i, hie⟩ : ∃ i, Hid (Bk.ix b.l id = i) := ⟨_, Lib.hid rfl⟩
    rw [hie.out] at hi HMi hok ⊢
    have HD := Lib.hid (fun wx (hb : Below w.heap.size w wx) => delone_calls wx A b.l c gl (hO.below hb) hfew i hi)
    have hel : Hid ((b.l.eraseIdx i).length = b.l.length - 1) := Lib.hid (List.length_eraseIdx_of_lt hi)
    obtain ⟨n, hn⟩ : ∃ n, Hid (b.l.length = n) := ⟨_, Lib.hid rfl⟩
    rw [hn.out] at HB HD hel hi hfew
    obtain ⟨n1, hn1⟩ : ∃ n1, Hid (n - 1 = n1) := ⟨_, Lib.hid rfl⟩
    rw [hn1.out] at HD hel
    have q1 : IntKind.i64.wrap ((i : Int) + 1) = (i : Int) + 1 := by rw [IntKind.wrap_i64]; omega
    have hgl := Lib.hid h.apart
    clear h hB hO hz he
    go_enter Try.func33, Try.ntmps33
    go_upto_region 3 with (go_at_call 46; (with_reducible refine HMi.out.mono ?_); rintro e w1 ⟨rfl, hh⟩; have hb1 := Lib.hid hh; clear hh)
    have BG := Lib.hid (HB.out.below hb1.out HB.out.lt)
    have x0 := BG.out.cell 0
    simp at x0
    have HDx := Lib.hid (HD.out w1 hb1.out)
    go_wp2_with (go_at_call 48; (with_reducible refine HDx.out.mono ?_); rintro e w2 ⟨rfl, hO2, hOn⟩; have HO2 := Lib.hid hO2; have HOn := Lib.hid hOn; have B2 := Lib.hid (keep_box BG.out hOn hgl.out); have z0 := B2.out.cell 0; simp at z0; have z1 := B2.out.frozen 0; clear hO2 hOn)
    refine bodyPost_ret (by simp [results, Try.results33, asAddr, go_sem]; rfl) rfl ?_
    refine ⟨rfl, gl, ⟨⟨A, c, ?_, ?_⟩, hgl.out, hok.out⟩, ?_, .inl rfl⟩
    · show Blk _ g _ #[.slice A (b.l.eraseIdx i).length c, .int .i64 b.next]
      rw [hel.out]
      exact (blk_two B2.out _).1
    · show Own _ 6 (.slice A (b.l.eraseIdx i).length c) gl (b.l.eraseIdx i).length (ocells (b.l.eraseIdx i))
      rw [hel.out]
      exact HO2.out.far hgl.out _ _
    · exact ((Only.of_below hb1.out).trans HOn.out fun x hx => .inl (.inr hx)).setCell (.inl (.inl rfl)) _
  · have hE : Hid (b.cancel id owner = (b, (b.mine id owner).2)) := Lib.hid (by unfold Bk.cancel; rw [if_pos hz])
    rw [hE.out]
    generalize (b.mine id owner).1 = m1 at HMi
    generalize (b.mine id owner).2 = m2 at HMi hz ⊢
    have hB : (m2 == 0) = false := by simpa using hz
    clear h hz
    go_enter Try.func33, Try.ntmps33
    go_wp2_with (go_at_call 46; (with_reducible refine HMi.out.mono ?_); rintro e w1 ⟨rfl, hh⟩; have hb1 := Lib.hid hh; clear hh)
    refine bodyPost_ret (by simp [results, Try.results33, asAddr, go_sem]; rfl) rfl ?_
    exact ⟨rfl, Turns.same H.out hb1.out⟩
end Go.Proofs.Ytilbhnloelgpdaa
