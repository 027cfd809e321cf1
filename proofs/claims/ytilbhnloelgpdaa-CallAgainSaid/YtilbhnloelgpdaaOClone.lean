/- slices.Clone at orders: a list of the call's own. -/
import Derived.Test.YtilbhnloelgpdaaRCross
import Derived.Lib.SliceRun
namespace Go.Proofs.Ytilbhnloelgpdaa
open Go.RowKit
set_option linter.unusedVariables false
set_option linter.unusedSimpArgs false
theorem ORow.src {w : World} {A : Option Addr} {L : List Ord} (h : ORow w A L) (c : Nat) : Src Try.prog 6 22 (.slice A L.length c) L.length (ocells L) w := by
  rcases h with h | ⟨b, o, rfl, h2, h3⟩
  · have h0 : L.length = 0 := by omega
    have hL : L = [] := List.eq_nil_of_length_eq_zero h0
    subst hL
    cases A with
    | none => exact Src.ofNil _ Try.underlying22 c
    | some a => exact Src.ofSlice _ Try.underlying22 a 0 c [] rfl (fun j u hu => by simp at hu) (fun u hu => by simp at hu)
  · refine Src.ofSlice _ Try.underlying22 ⟨b, o, none⟩ L.length c (ocells L) (ocells_length L) (fun j u hu => ?_) (ocells_one L)
    have hj : j < L.length * 6 := by
      have := (List.getElem?_eq_some_iff.1 hu).1
      rwa [ocells_length] at this
    rw [show (⟨b, o, none⟩ : Addr).add j = ⟨b, o + j, none⟩ from by simp [Addr.add_lit], h3 j hj]
    show Option.some ((ocells L).getD j _) = Option.some u
    rw [List.getD_eq_getElem?_getD, hu]; rfl
theorem info_order : (Try.prog.info? 33).map (fun i => (i.zero, i.size, i.bytes)) = some (some (.agg #[.int .i64 0, .int .i64 0, .int .i64 0, .int .i64 0, .int .i64 0, .bool false]), 6, 48) := by kernel_rfl
/-- A list of orders, its own. -/
def Listed (w : World) (L : List Ord) (e : Ending) (w' : World) : Prop := ∃ A c, e = .returned (.slice A L.length c) ∧ Mine w w' 6 (.slice A L.length c) L.length (ocells L) ∧ Below w.heap.size w w'
set_option maxHeartbeats 2000000 in
set_option maxRecDepth 100000 in
theorem clone_calls (w : World) (A : Option Addr) (L : List Ord) (c : Nat) (h : ORow w A L) (hl : L.length ≤ 64) :
    Calls Try.prog 42 #[.slice A L.length c] w (Listed w L) := by
  have H := Lib.hid h
  have HS : Hid (∀ wx, Below w.heap.size w wx → Src Try.prog 6 22 (.slice A L.length c) L.length (ocells L) wx) := Lib.hid fun wx hb => (h.below hb).src c
  obtain ⟨m, hm⟩ : ∃ m, Hid (L.length = m) := ⟨_, Lib.hid rfl⟩
  obtain ⟨i1, hi1, hy0, hy1, hy2⟩ := info_parts info_order
  have HI1 := Lib.hid hi1
  have HY0 := Lib.hid hy0
  have HY1 := Lib.hid hy1
  have HY2 := Lib.hid hy2
  rw [hm.out] at HS hl ⊢
  clear h hi1 hy0 hy1 hy2
  have hA1 : Hid (0 + m ≤ maxLen) := Lib.hid (by unfold maxLen; omega)
  have hA2 : Hid ((0 + m) * 48 ≤ 140737488355328) := Lib.hid (by omega)
  cases A with
  | none =>
    have h0 : m = 0 := by
      rcases H.out with h0 | ⟨b, off, h0, _⟩
      · have := hm.out; omega
      · cases h0
    subst h0
    have hq : ∀ wx, (binOp .eql 22 (.slice none 0 c) (.slice none 0 0)).run Try.prog wx = .ok (.bool true) wx := fun wx => Lib.run_eql_slice_nil wx _ _ _ _ _ _ _ Try.underlying22
    have hL : L = [] := List.eq_nil_of_length_eq_zero hm.out
    go_enter Try.func42, Try.ntmps42
    go_wp2
    refine bodyPost_ret (by simp [results, Try.results42, asAddr, go_sem]; rfl) rfl ?_
    subst hL
    exact ⟨none, 0, rfl, Mine.empty _ _ _ _, Below.refl _ _⟩
  | some ad =>
    have hq : ∀ wx, (binOp .eql 22 (.slice (some ad) m c) (.slice none 0 0)).run Try.prog wx = .ok (.bool false) wx := fun wx => Lib.run_eql_slice_nil wx _ _ _ _ _ _ _ Try.underlying22
    go_enter Try.func42, Try.ntmps42
    go_upto_region 3 with (fail)
    go_wp2_with (first
      | (refine wpList_append_mine rfl (.tmp 5) (.tmp 6) 22 22 rfl 33 i1 (.agg #[.int .i64 0, .int .i64 0, .int .i64 0, .int .i64 0, .int .i64 0, .bool false]) 48 Try.underlying22 HI1.out HY0.out HY1.out HY2.out rfl (by decide) rfl (Mine.empty w _ 6 _) ((Below.refl _ _).alloc (Nat.le_refl _) _) _ m (ocells L) rfl (HS.out _ ((Below.refl _ _).alloc (Nat.le_refl _) _)) hA1.out hA2.out ?_; intro A2 c2 w2 hm2 hb2; have HM2 := Lib.hid hm2; have HB2 := Lib.hid hb2; clear hm2 hb2))
    refine bodyPost_ret (by simp [results, Try.results42, asAddr, go_sem]; rfl) rfl ?_
    have hz := HM2.out
    rw [Nat.zero_add, List.nil_append] at hz
    exact ⟨A2, c2, by rw [hm.out], by rw [hm.out]; exact hz, HB2.out⟩
end Go.Proofs.Ytilbhnloelgpdaa
