/- slices.Delete at orders: one is taken out of a row that may be written. -/
import Derived.Test.YtilbhnloelgpdaaBkG
import Derived.Deep.RegionLaw
namespace Go.Proofs.Ytilbhnloelgpdaa
open Go.RowKit
set_option linter.unusedVariables false
set_option linter.unusedSimpArgs false
theorem Own.over {w : World} {sz n c : Nat} {A : Option Addr} {bk : Option Nat} {xs : List Value} (h : Own w sz (.slice A n c) bk n xs) {p : Nat} {vs : List Value} (hp : p + vs.length ≤ n * sz) (hv : 0 < vs.length) :
    ∃ g off, bk = some g ∧ A = some ⟨g, off, none⟩ ∧ (∀ j, j < vs.length → (w.cell? ⟨g, off + p + j, none⟩).isSome = true ∧ w.frozen? ⟨g, off + p + j, none⟩ = false) ∧ Own (w.setCells g (off + p) vs) sz (.slice A n c) bk n (Go.Proofs.Ytilbhnloelgpdaa.over xs p vs) := by
  obtain ⟨h0, A', c', heq, h1, h2, h3⟩ := h
  cases heq
  have hnc : n * sz ≤ c * sz := Nat.mul_le_mul_right _ h1
  rcases h3 with ⟨_, h4⟩ | ⟨g, off, rfl, rfl, hg, h5, h6⟩
  · subst h4
    rw [Nat.zero_mul] at hnc
    omega
  · have hc : ∀ j, j < vs.length → (w.cell? ⟨g, off + p + j, none⟩).isSome = true ∧ w.frozen? ⟨g, off + p + j, none⟩ = false := fun j hj => by
      rw [Nat.add_assoc]; exact h5 (p + j) (by omega)
    have hk := World.keptBut_setCells g (may := fun _ => True) vs (off + p) w fun _ _ => trivial
    refine ⟨g, off, rfl, rfl, hc, ⟨by rw [over_length (by omega)]; exact h0, _, _, rfl, h1, h2, .inr ⟨g, off, rfl, rfl, Nat.lt_of_lt_of_le hg hk.size, fun i hi => ⟨World.isSome_setCells _ _ _ _ _ (h5 i hi).1, by rw [World.frozen?_setCells]; exact (h5 i hi).2⟩, fun i hi => ?_⟩⟩⟩
    by_cases hin : p ≤ i ∧ i < p + vs.length
    · have := World.cell?_setCells_in g vs (off + p) w (fun j hj => (hc j hj).1) (i - p) (by omega)
      rw [show off + p + (i - p) = off + i from by omega] at this
      have e := over_in (xs := xs) (vs := vs) (p := p) (j := i - p) (by omega) (by omega)
      rw [show p + (i - p) = i from by omega] at e
      rw [this, e, List.getElem?_eq_getElem (by omega)]
    · rw [World.cell?_setCells_out g vs (off + p) w ⟨g, off + i, none⟩ (fun _ _ => by show off + i < _ ∨ _ ≤ off + i; omega), over_out (by omega) (by omega)]
      exact h6 i hi
/-- Fewer in front. -/
theorem Own.front {w : World} {n c r b o : Nat} {bk : Option Nat} {xs : List Value} (h : Own w 6 (.slice (some ⟨b, o, none⟩) n c) bk n xs) (hr : r ≤ n) (hc : 0 < c) : Own w 6 (.slice (some ⟨b, o, none⟩) r c) bk r (xs.take (r * 6)) := by
  obtain ⟨h0, A', c', heq, h1, h2, h3⟩ := h
  cases heq
  refine ⟨by rw [List.length_take]; omega, _, _, rfl, by omega, h2, ?_⟩
  rcases h3 with ⟨_, h4⟩ | ⟨g, off, h4, heq, hg, h5, h6⟩
  · omega
  · refine .inr ⟨g, off, h4, heq, hg, h5, fun j hj => ?_⟩
    rw [h6 j (by omega), List.getElem?_take_of_lt hj]
theorem erase_cells (L : List Ord) {i : Nat} (hi : i < L.length) : (over (ocells L) (i * 6) (ocells (L.drop (i + 1)))).take ((L.length - 1) * 6) = ocells (L.eraseIdx i) := by
  have e1 : (ocells (L.take i)).length = i * 6 := by rw [ocells_length, List.length_take, Nat.min_eq_left (by omega)]
  have e2 : ocells L = ocells (L.take i) ++ ocells (L.drop i) := by rw [← ocells_append, List.take_append_drop]
  have e3 : (ocells (L.drop (i + 1))).length = (L.length - (i + 1)) * 6 := by rw [ocells_length, List.length_drop]
  rw [List.eraseIdx_eq_take_drop_succ, ocells_append]
  unfold over
  rw [e2, List.take_append_of_le_length (l₁ := ocells (L.take i)) (by omega), List.take_of_length_le (l := ocells (L.take i)) (by omega), List.append_assoc, ← List.append_assoc, List.take_append_of_le_length (by rw [List.length_append]; omega), List.take_of_length_le (by rw [List.length_append]; omega)]
theorem over_none (xs : List Value) (p : Nat) : over xs p [] = xs := by unfold over; simp
theorem over_take {xs vs : List Value} {p : Nat} (h : p ≤ xs.length) : (over xs p vs).take p = xs.take p := by
  unfold over
  rw [List.append_assoc, List.take_append_of_le_length (by rw [List.length_take]; omega), List.take_of_length_le (by rw [List.length_take]; omega)]
theorem Own.over0 {w : World} {sz n c b o : Nat} {xs : List Value} (h : Own w sz (.slice (some ⟨b, o, none⟩) n c) (some b) n xs) {p : Nat} {vs : List Value} (hp : p + vs.length ≤ n * sz) :
    Own (w.setCells b (o + p) vs) sz (.slice (some ⟨b, o, none⟩) n c) (some b) n (Go.Proofs.Ytilbhnloelgpdaa.over xs p vs) ∧ (∀ j, j < vs.length → (w.cell? ⟨b, o + p + j, none⟩).isSome = true ∧ w.frozen? ⟨b, o + p + j, none⟩ = false) := by
  by_cases hv : 0 < vs.length
  · obtain ⟨g, off, e1, e2, h1, h2⟩ := h.over hp hv
    cases e1
    cases e2
    exact ⟨h2, h1⟩
  · have : vs = [] := List.eq_nil_of_length_eq_zero (by omega)
    subst this
    rw [over_none]
    exact ⟨h, fun j hj => by simp at hj⟩
set_option maxHeartbeats 4000000 in
set_option maxRecDepth 100000 in
theorem delone_calls (w : World) (A : Option Addr) (L : List Ord) (c : Nat) (bk : Option Nat) (h : Own w 6 (.slice A L.length c) bk L.length (ocells L)) (hl : L.length ≤ 64) (i : Nat) (hi : i < L.length) :
    Calls Try.prog 48 #[.slice A L.length c, .int .i64 (i : Int), .int .i64 ((i : Int) + 1)] w fun e w' => e = .returned (.slice A (L.length - 1) c) ∧ Own w' 6 (.slice A (L.length - 1) c) bk (L.length - 1) (ocells (L.eraseIdx i)) ∧ Only (fun k => some k = bk) w w' := by
  obtain ⟨b, o, hbk, rfl, _, _⟩ := h.over (p := 0) (vs := ocell ord0) (by rw [ocell_length]; omega) (by decide)
  subst hbk
  have hcn := (h.orow rfl).1
  have hcm := (h.orow rfl).2.1
  have Ho := Lib.hid (h.orow rfl).2.2
  obtain ⟨i1, hi1, hy0, hy1, hy2⟩ := info_parts info_order
  have HI1 := Lib.hid hi1
  have HY1 := Lib.hid hy1
  obtain ⟨n, hn⟩ : ∃ n, Hid (L.length = n) := ⟨_, Lib.hid rfl⟩
  obtain ⟨n1, hn1⟩ : ∃ n1, Hid (n - 1 = n1) := ⟨_, Lib.hid rfl⟩
  have HE := Lib.hid (erase_cells L hi)
  have H := Lib.hid h
  rw [hn.out] at H hl hi hcn HE ⊢
  rw [hn1.out] at HE ⊢
  have i0 : (0 : Int) ≤ (i : Int) := by omega
  have i2 : (i : Int) ≤ (i : Int) + 1 := by omega
  have i3 : (i : Int) + 1 ≤ (n : Int) := by omega
  have i4 : (0 : Int) ≤ (i : Int) + 1 := by omega
  have i5 : (n : Int) ≤ (c : Int) := by omega
  have i6 : (i : Int) ≤ (c : Int) := by omega
  have i7 : (i : Int) + 1 ≤ (c : Int) := by omega
  have hne : ((i : Int) == (i : Int) + 1) = false := by rw [beq_eq_false_iff_ne]; omega
  have q1 : ((i : Int) + 1).toNat = i + 1 := by omega
  clear h hi1 hy0 hy1 hy2
  go_enter Try.func48, Try.ntmps48
  go_upto_region 5 with (fail)
  obtain ⟨Ad, hA, hnews⟩ : ∃ Ad : Addr, (if c = i + 1 then some (⟨b, o, none⟩ : Addr) else some ⟨b, o + (i + 1) * 6, none⟩) = some Ad ∧ Hid (∀ j u, (ocells (L.drop (i + 1)))[j]? = some u → w.drew.cell? (Ad.add j) = some u) := by
    have hgt : ∀ j u, (ocells (L.drop (i + 1)))[j]? = some u → w.drew.cell? ⟨b, o + (i + 1) * 6 + j, none⟩ = some u := fun j u hu => by
      have hj : j < (L.length - (i + 1)) * 6 := by
        have := (List.getElem?_eq_some_iff.1 hu).1
        rwa [ocells_length, List.length_drop] at this
      have e2 : ocells L = ocells (L.take (i + 1)) ++ ocells (L.drop (i + 1)) := by rw [← ocells_append, List.take_append_drop]
      have e3 : (ocells (L.take (i + 1))).length = (i + 1) * 6 := by rw [ocells_length, List.length_take, hn.out]; omega
      obtain ⟨_, _, _, heq, _, _, h3⟩ := H.out
      cases heq
      rcases h3 with ⟨h4, _⟩ | ⟨g, off, h4, heq, _, _, h6⟩
      · cases h4
      · cases heq
        have := h6 ((i + 1) * 6 + j) (by rw [hn.out] at hj; omega)
        rw [← Nat.add_assoc] at this
        show w.cell? _ = _
        rw [this, e2, List.getElem?_append_right (by omega), e3, Nat.add_sub_cancel_left]; exact hu
    by_cases hc : c = i + 1
    · refine ⟨⟨b, o, none⟩, by rw [if_pos hc], Lib.hid fun j u hu => ?_⟩
      have hj := (List.getElem?_eq_some_iff.1 hu).1
      rw [ocells_length, List.length_drop, hn.out] at hj
      omega
    · refine ⟨⟨b, o + (i + 1) * 6, none⟩, by rw [if_neg hc], Lib.hid fun j u hu => ?_⟩
      rw [show (⟨b, o + (i + 1) * 6, none⟩ : Addr).add j = ⟨b, o + (i + 1) * 6 + j, none⟩ from by simp [Addr.add_lit]]
      exact hgt j u hu
  have hnl : Hid ((ocells (L.drop (i + 1))).length = (n - (i + 1)) * 6) := Lib.hid (by rw [ocells_length, List.length_drop, hn.out])
  have hone : Hid (∀ u ∈ ocells (L.drop (i + 1)), u.oneCell' = true) := Lib.hid (ocells_one _)
  obtain ⟨hO1, hsp⟩ := (H.out.below (Below.refl _ _).drew).over0 (p := i * 6) (vs := ocells (L.drop (i + 1))) (by rw [hnl.out]; omega)
  have HO1 := Lib.hid hO1
  have HSP := Lib.hid hsp
  have hroom : i + (n - (i + 1)) ≤ c := by omega
  have q2 : i + (n - (i + 1)) = n1 := by have := hn1.out; omega
  have ho1 : Hid (Only (fun k => some k = some b) w (w.drew.setCells b (o + i * 6) (ocells (L.drop (i + 1))))) := Lib.hid ((Only.of_below (S := fun k => some k = some b) (Below.refl w.heap.size w).drew).trans ((only_setCells w.drew b (o + i * 6) (ocells (L.drop (i + 1)))).mono (S' := fun k => some k = some b) fun k hk => by rw [hk]) fun k hk => .inl hk)
  clear hO1 hsp
  go_region_law (refine step_append_room rfl (.tmp 22) (.tmp 25) 22 rfl 33 i1 6 Try.underlying22 HI1.out HY1.out b o i c (by simp [Act.eval, Act.put]) Ad (n - (i + 1)) (c - (i + 1)) (ocells (L.drop (i + 1))) (by simp [Act.eval, Act.put]) hnl.out hnews.out hone.out hroom HSP.out ?_)
  clear hA hnews
  generalize World.setCells _ _ _ _ = wz at HO1 ho1 ⊢
  have hn1n : n1 ≤ n ∧ n1 < c ∧ n - n1 = 1 := by have := hn1.out; omega
  obtain ⟨hO2, hsp2⟩ := HO1.out.over0 (p := n1 * 6) (vs := (Builtin.zeroCells #[.int .i64 0, .int .i64 0, .int .i64 0, .int .i64 0, .int .i64 0, .bool false] (n - n1)).toList) (by rw [zeroCells_length]; simp; omega)
  have HO2 := Lib.hid (hO2.front (r := n1) (by omega) (by omega))
  rw [over_take (by rw [over_length (by rw [hnl.out, ocells_length, hn.out]; omega), ocells_length, hn.out]; omega), HE.out] at HO2
  have hcl : ∀ cc, (Builtin.clear_ #[22] 0 #[.slice (some ⟨b, o + n1 * 6, none⟩) (n - n1) cc]).run Try.prog wz = .ok (.tuple #[]) (wz.setCells b (o + n1 * 6) (Builtin.zeroCells #[.int .i64 0, .int .i64 0, .int .i64 0, .int .i64 0, .int .i64 0, .bool false] (n - n1)).toList) := fun cc => by
    refine run_clear_rows wz _ _ 0 (.agg #[.int .i64 0, .int .i64 0, .int .i64 0, .int .i64 0, .int .i64 0, .bool false]) Try.underlying22 (fun wx => ?_) (by decide) b _ (n - n1) cc (by omega) fun k hk => hsp2 k (by rw [zeroCells_length]; exact hk)
    obtain ⟨i1, hi1, hy0, _, _⟩ := info_parts info_order
    simp [zeroValue]
    rfl
  have ho2 : Hid (Only (fun k => some k = some b) w (wz.setCells b (o + n1 * 6) (Builtin.zeroCells #[.int .i64 0, .int .i64 0, .int .i64 0, .int .i64 0, .int .i64 0, .bool false] (n - n1)).toList)) := Lib.hid (ho1.out.trans ((only_setCells _ _ _ _).mono (S' := fun k => some k = some b) fun k hk => by rw [hk]) fun k hk => .inl hk)
  generalize wz.setCells b _ _ = wy at hcl HO2 ho2
  have m1 : (n1 : Int) ≤ (n : Int) := by omega
  have m2 : (0 : Int) ≤ (n1 : Int) := by omega
  have m3 : (n1 : Int) < (c : Int) := by omega
  have m4 : ¬ c = n1 := by omega
  clear hO2 hsp2 hn1n q2 hroom i0 i2 i3 i4 i6 i7 q1 hne
  go_wp2
  refine bodyPost_ret (by simp [results, Try.results48, asAddr, go_sem]; rfl) rfl ?_
  exact ⟨rfl, HO2.out, ho2.out⟩
end Go.Proofs.Ytilbhnloelgpdaa
