/- slices.DeleteFunc at orders and rights' own function. -/
import Derived.Test.YtilbhnloelgpdaaOPut
namespace Go.Proofs.Ytilbhnloelgpdaa
open Go.RowKit
set_option linter.unusedVariables false
set_option linter.unusedSimpArgs false
theorem over_ocells (F : List Ord) {i : Nat} (h : i < F.length) (o : Ord) : over (ocells F) (i * 6) (ocell o) = ocells (F.set i o) := by
  have e : F = F.take i ++ F[i] :: F.drop (i + 1) := by rw [← List.drop_eq_getElem_cons h, List.take_append_drop]
  have e1 : (ocells (F.take i)).length = i * 6 := by rw [ocells_length, List.length_take, Nat.min_eq_left (by omega)]
  have e2 : ocells F = ocells (F.take i) ++ (ocell F[i] ++ ocells (F.drop (i + 1))) := by
    conv => lhs; rw [e]
    rw [ocells_append]; rfl
  have e3 : F.set i o = F.take i ++ o :: F.drop (i + 1) := by rw [List.set_eq_take_append_cons_drop, if_pos h]
  unfold over
  rw [e3, ocells_append, e2, ocell_length, List.take_append_of_le_length (by omega), List.take_of_length_le (by omega), List.drop_append, List.drop_of_length_le (by omega), e1, Nat.add_sub_cancel_left, List.nil_append, List.append_assoc]
  rfl
theorem mem_tw : ∀ {L : List Ord} {o : Ord}, o ∈ L.takeWhile Ord.right → o.right = true
  | [], o, h => by simp at h
  | q :: l, o, h => by
    by_cases hq : q.right = true
    · rw [List.takeWhile_cons_of_pos hq, List.mem_cons] at h
      rcases h with h | h
      · rw [h]; exact hq
      · exact mem_tw h
    · rw [List.takeWhile_cons_of_neg hq] at h; simp at h
theorem only_setCells (w : World) (g o : Nat) (vs : List Value) : Only (fun b => b = g) w (w.setCells g o vs) := by
  induction vs generalizing o w with
  | nil => exact Only.refl _ _
  | cons v r ih =>
    rw [World.setCells]
    exact ((Only.refl (fun b => b = g) w).setCell (g := g) (j := o) (.inl rfl) v).trans (ih (w.setCell ⟨g, o, none⟩ v) (o + 1)) fun b hb => .inl hb
theorem mine_front {w0 w : World} {b o m c i : Nat} {F : List Ord} {zs : List Value} (h : Mine w0 w 6 (.slice (some ⟨b, o, none⟩) m c) m (over (ocells F) (i * 6) zs)) (hF : F.length = m) (hi : i < m) (hmc : m ≤ c) : Mine w0 w 6 (.slice (some ⟨b, o, none⟩) i c) i (ocells (F.take i)) := by
  have h1 := h.cut (l := 0) (r := i) (Nat.zero_le _) (Nat.le_of_lt hi)
  rw [if_neg (by omega)] at h1
  have e1 : (ocells (F.take i)).length = i * 6 := by rw [ocells_length, List.length_take, Nat.min_eq_left (by omega)]
  have e : ((over (ocells F) (i * 6) zs).drop (0 * 6)).take ((i - 0) * 6) = ocells (F.take i) := by
    have e2 : ocells F = ocells (F.take i) ++ ocells (F.drop i) := by rw [← ocells_append, List.take_append_drop]
    unfold over
    rw [Nat.zero_mul, List.drop_zero, Nat.sub_zero, List.append_assoc, e2, List.take_append_of_le_length (l₁ := ocells (F.take i)) (by omega), List.take_of_length_le (l := ocells (F.take i)) (by omega), List.take_append_of_le_length (by omega), List.take_of_length_le (by omega)]
  rw [e] at h1
  simpa [Addr.add] using h1
structure DInv (L F : List Ord) (i j : Nat) : Prop where
  len : F.length = L.length
  front : F.take i = (L.take j).filter Ord.right
  back : F.drop j = L.drop j
  lt : i < j
theorem lead_front : ∀ (L : List Ord) (j : Nat), j < lead L → (L.getD j ord0).right = true
  | [], j, h => by simp [lead] at h
  | o :: l, j, h => by
    unfold lead at h
    by_cases ho : o.right = true
    · rw [List.takeWhile_cons_of_pos ho, List.length_cons] at h
      cases j with
      | zero => exact ho
      | succ j => exact lead_front l j (by unfold lead; omega)
    · rw [List.takeWhile_cons_of_neg ho] at h; simp at h
theorem take_lead (L : List Ord) : L.take (lead L) = L.takeWhile Ord.right := by
  induction L with
  | nil => rfl
  | cons o l ih =>
    unfold lead at *
    by_cases ho : o.right = true
    · rw [List.takeWhile_cons_of_pos ho, List.length_cons, List.take_succ_cons, ih]
    · rw [List.takeWhile_cons_of_neg ho]; rfl
theorem lead_wrong : ∀ (L : List Ord), lead L < L.length → (L.getD (lead L) ord0).right = false
  | [], h => by simp [lead] at h
  | o :: l, h => by
    by_cases ho : o.right = true
    · have e : lead (o :: l) = lead l + 1 := by unfold lead; rw [List.takeWhile_cons_of_pos ho, List.length_cons]
      rw [e] at h ⊢
      exact lead_wrong l (by simpa using h)
    · have e : lead (o :: l) = 0 := by unfold lead; rw [List.takeWhile_cons_of_neg ho]; rfl
      rw [e]; simpa using ho
theorem filter_whole {L : List Ord} (h : lead L = L.length) : L.filter Ord.right = L := by
  have h1 := take_lead L
  rw [h, List.take_length] at h1
  rw [List.filter_eq_self]
  intro o ho
  rw [h1] at ho
  exact mem_tw ho
theorem DInv.start {L : List Ord} (h : lead L < L.length) : DInv L L (lead L) (lead L + 1) := by
  refine ⟨rfl, ?_, rfl, Nat.lt_succ_self _⟩
  rw [Ca.take_at L h, List.filter_append, Ca.filter_one, lead_wrong L h, if_neg (by simp), List.append_nil, take_lead]
  exact (List.filter_eq_self.2 fun o ho => mem_tw ho).symm
theorem DInv.at_ {L F : List Ord} {i j : Nat} (h : DInv L F i j) (hj : j < L.length) : F.getD j ord0 = L.getD j ord0 := by
  have e := congrArg (fun l => l.getD 0 ord0) h.back
  simpa [List.getD_eq_getElem?_getD, List.getElem?_drop] using e
theorem DInv.wrong {L F : List Ord} {i j : Nat} (h : DInv L F i j) (hj : j < L.length) (hr : (L.getD j ord0).right = false) : DInv L F i (j + 1) := by
  refine ⟨h.len, ?_, ?_, Nat.lt_succ_of_lt h.lt⟩
  · rw [Ca.take_at L hj, List.filter_append, Ca.filter_one, hr, if_neg (by simp), List.append_nil]; exact h.front
  · have e := congrArg (List.drop 1) h.back
    simpa [List.drop_drop] using e
theorem DInv.next {L F : List Ord} {i j : Nat} (h : DInv L F i j) (hj : j < L.length) (hr : (L.getD j ord0).right = true) : DInv L (F.set i (L.getD j ord0)) (i + 1) (j + 1) := by
  have hl := h.len
  have hle := h.lt
  refine ⟨by rw [List.length_set]; exact hl, ?_, ?_, Nat.succ_lt_succ hle⟩
  · rw [Ca.take_at L hj, List.filter_append, Ca.filter_one, if_pos hr, ← h.front]
    have hi : i < (F.set i (L.getD j ord0)).length := by rw [List.length_set]; omega
    rw [List.take_succ_eq_append_getElem hi, List.getElem_set_self, List.take_set_of_le (Nat.le_refl _)]
  · have e := congrArg (List.drop 1) h.back
    rw [List.drop_set_of_lt (by omega)]
    simpa [List.drop_drop] using e
theorem DInv.done {L F : List Ord} {i : Nat} (h : DInv L F i L.length) : F.take i = L.filter Ord.right ∧ (L.filter Ord.right).length = i := by
  have h1 := h.front
  rw [List.take_length] at h1
  refine ⟨h1, ?_⟩
  rw [← h1, List.length_take, h.len]
  have := h.lt
  omega
/-- The list R is left, in a row made behind w0. -/
def Left (w0 : World) (R : List Ord) (e : Ending) (w' : World) : Prop := ∃ A c, e = .returned (.slice A R.length c) ∧ Mine w0 w' 6 (.slice A R.length c) R.length (ocells R) ∧ Below w0.heap.size w0 w'
set_option maxHeartbeats 4000000 in
set_option maxRecDepth 100000 in
theorem delete_calls (w0 w : World) (A : Option Addr) (L : List Ord) (c : Nat) (h : Mine w0 w 6 (.slice A L.length c) L.length (ocells L)) (hb0 : Below w0.heap.size w0 w) (hl : L.length ≤ 64) :
    Calls Try.prog 44 #[.slice A L.length c, .func (.func 58) #[] #[]] w (Left w0 (L.filter Ord.right)) := by
  have H := Lib.hid h
  have HB0 := Lib.hid hb0
  obtain ⟨m, hm⟩ : ∃ m, Hid (L.length = m) := ⟨_, Lib.hid rfl⟩
  have HI : Hid (∀ wx, Below w.heap.size w wx → Calls Try.prog 62 #[.slice A m c, .func (.func 58) #[] #[]] wx (Told wx (.int .i64 (if lead L = m then -1 else (lead L : Int))))) := Lib.hid fun wx hx => by
    have := index_calls wx A L c ((h.orow rfl).2.below hx) hl
    rwa [hm.out] at this
  obtain ⟨d, hd⟩ : ∃ d, Hid (lead L = d) := ⟨_, Lib.hid rfl⟩
  rw [hd.out] at HI
  rw [hm.out] at hl ⊢
  have HdL := Lib.hid (lead_le L)
  rw [hd.out, hm.out] at HdL
  have hdl := HdL.out
  clear h hb0
  by_cases hdm : d = m
  · have HI2 : Hid (∀ wx, Below w.heap.size w wx → Calls Try.prog 62 #[.slice A m c, .func (.func 58) #[] #[]] wx (Told wx (.int .i64 (-1)))) := Lib.hid fun wx hx => by
      have := HI.out wx hx
      rwa [if_pos hdm] at this
    have hf : Hid (L.filter Ord.right = L) := Lib.hid (filter_whole (by rw [hd.out, hm.out]; exact hdm))
    rw [hf.out]
    clear HI
    go_enter Try.func44, Try.ntmps44
    go_wp2_with (go_at_call 62; (with_reducible refine (HI2.out _ (Below.refl _ _)).mono ?_); rintro e w1 ⟨rfl, hh⟩; have hb1 := Lib.hid hh; clear hh)
    refine bodyPost_ret (by simp [results, Try.results44, asAddr, go_sem]; rfl) rfl ?_
    have hz := H.out.below hb1.out
    exact ⟨A, c, by rw [hm.out], hz, HB0.out.trans (hb1.out.mono HB0.out.size)⟩
  have HI2 : Hid (∀ wx, Below w.heap.size w wx → Calls Try.prog 62 #[.slice A m c, .func (.func 58) #[] #[]] wx (Told wx (.int .i64 (d : Int)))) := Lib.hid fun wx hx => by
    have := HI.out wx hx
    rwa [if_neg hdm] at this
  have hd1 : d + 1 ≤ m := by omega
  have HSt : Hid (DInv L L d (d + 1)) := Lib.hid (by
    have := DInv.start (L := L) (by rw [hd.out, hm.out]; omega)
    rwa [hd.out] at this)
  have hdB : ((d : Int) == -1) = false := by
    rw [beq_eq_false_iff_ne]; omega
  have d0 : (0 : Int) ≤ (d : Int) := by omega
  have q0 : IntKind.i64.wrap ((d : Int) + 1) = (d : Int) + 1 := by rw [IntKind.wrap_i64]; omega
  have HR := Lib.hid (fun wx o => wrong_calls wx o)
  clear HI
  go_enter Try.func44, Try.ntmps44
  go_upto_region 5 with (go_at_call 62; (with_reducible refine (HI2.out _ (Below.refl _ _)).mono ?_); rintro e w1 ⟨rfl, hh⟩; have hb1 := Lib.hid hh; clear hh)
  go_loopg [5, 6] (m + 1 - (d + 1)) (fun gk s5 s6 wr => ∃ (i j : Nat) (F : List Ord), gk = m + 1 - j ∧ j ≤ m ∧ s5 = .int .i64 (i : Int) ∧ s6 = .int .i64 (j : Int) ∧ Hid (DInv L F i j) ∧ Hid (Mine w0 wr 6 (.slice A m c) m (ocells F)) ∧ Hid (Below w0.heap.size w0 wr))
  case atStart => exact ⟨d, d + 1, L, rfl, hd1, rfl, by go_num, HSt, Lib.hid (by have := H.out.below hb1.out; rwa [hm.out] at this), Lib.hid (HB0.out.trans (hb1.out.mono HB0.out.size))⟩
  case round =>
    obtain ⟨i, j, F, rfl, hj, rfl, rfl, hI, hF, hb⟩ := hrel
    have i0 : (0 : Int) ≤ (i : Int) := by omega
    have j0 : (0 : Int) ≤ (j : Int) := by omega
    have hij := hI.out.lt
    have hFl : Hid (F.length = m) := Lib.hid (by rw [hI.out.len, hm.out])
    by_cases hlt : j < m
    · have hltI : (j : Int) < (m : Int) := by omega
      have him : (i : Int) < (m : Int) := by omega
      have hOF : Hid (ORow wr A F) := Lib.hid (hF.out.orow hFl.out).2
      have hlF : Hid (j < F.length) := Lib.hid (by rw [hFl.out]; exact hlt)
      have hlL : Hid (j < L.length) := Lib.hid (by rw [hm.out]; exact hlt)
      obtain ⟨b, o, rfl⟩ : ∃ b o, A = some ⟨b, o, none⟩ := by
        obtain ⟨b, o, e, _⟩ := hOF.out.cells hlF.out
        exact ⟨b, o, e⟩
      have HC := Lib.hid (fun wx hh => ORow.six hOF.out hlF.out (w' := wx) hh)
      have HRr := Lib.hid (fun wx => HR.out wx (L.getD j ord0))
      have hBad := Lib.hid (hI.out.wrong hlL.out)
      have hNx := Lib.hid (hI.out.next hlL.out)
      have HM := Lib.hid (show m + 1 - (j + 1) < m + 1 - j by omega)
      rw [hI.out.at_ hlL.out] at HC
      generalize L.getD j ord0 = q at HC hBad hNx HRr
      obtain ⟨qi, qo, qp, qa, qpl, qb⟩ := q
      unfold oval at HRr
      simp only at HC HRr
      have hRq := Lib.hid (rfl : Ord.right ⟨qi, qo, qp, qa, qpl, qb⟩ = Ord.right ⟨qi, qo, qp, qa, qpl, qb⟩)
      obtain ⟨c0, c1, c2, c3, c4, c5⟩ := HC.out wr (Below.refl _ _)
      generalize Ord.right ⟨qi, qo, qp, qa, qpl, qb⟩ = r at hBad hNx HRr hRq
      cases r with
      | false =>
        have e1 := Lib.hid (hBad.out rfl)
        clear hNx hBad
        go_upto_region 8 with (fail)
        have hbA : Hid (Below wr.heap.size wr (wr.alloc (.cells #[.int .i64 qi, .int .i64 qo, .int .i64 qp, .int .i64 qa, .int .i64 qpl, .bool qb] 33))) := Lib.hid ((Below.refl _ _).alloc (Nat.le_refl _) _)
        have BA := Lib.hid (Blk.new wr 33 #[.int .i64 qi, .int .i64 qo, .int .i64 qp, .int .i64 qa, .int .i64 qpl, .bool qb])
        obtain ⟨g, hg⟩ : ∃ g, Hid (wr.heap.size = g) := ⟨_, Lib.hid rfl⟩
        rw [hg.out] at BA ⊢
        generalize World.alloc wr _ = wy at hbA BA ⊢
        clear c0 c1 c2 c3 c4 c5
        have HX : Hid (∀ wx, Below wy.heap.size wy wx → (wx.cell? ⟨g, 0, none⟩ = some (.int .i64 qi) ∧ wx.cell? ⟨g, 1, none⟩ = some (.int .i64 qo) ∧ wx.cell? ⟨g, 2, none⟩ = some (.int .i64 qp) ∧ wx.cell? ⟨g, 3, none⟩ = some (.int .i64 qa) ∧ wx.cell? ⟨g, 4, none⟩ = some (.int .i64 qpl) ∧ wx.cell? ⟨g, 5, none⟩ = some (.bool qb))) := Lib.hid fun wx hh => by
          have b0 := BA.out.below hh BA.out.lt
          exact ⟨b0.cell 0, b0.cell 1, b0.cell 2, b0.cell 3, b0.cell 4, b0.cell 5⟩
        have hF2 : Hid (Mine w0 wy 6 (.slice (some ⟨b, o, none⟩) m c) m (ocells F)) := Lib.hid (hF.out.below hbA.out)
        have hbb : Hid (Below w0.heap.size w0 wy) := Lib.hid (hb.out.trans (hbA.out.mono hb.out.size))
        obtain ⟨c0, c1, c2, c3, c4, c5⟩ := HX.out wy (Below.refl _ _)
        go_wp2_with (go_at_call 58; (with_reducible refine (HRr.out _).mono ?_); rintro e w2 ⟨rfl, hh⟩; have hb2 := Lib.hid hh; clear hh)
        go_roundg (m + 1 - (j + 1))
        case measure => exact HM.out
        case rel => exact ⟨i, j + 1, F, rfl, by omega, rfl, by go_num, e1, Lib.hid (hF2.out.below hb2.out), Lib.hid (hbb.out.trans (hb2.out.mono hbb.out.size))⟩
      | true =>
        have e1 := Lib.hid (hNx.out rfl)
        clear hNx hBad
        go_upto_region 8 with (fail)
        have hbA : Hid (Below wr.heap.size wr (wr.alloc (.cells #[.int .i64 qi, .int .i64 qo, .int .i64 qp, .int .i64 qa, .int .i64 qpl, .bool qb] 33))) := Lib.hid ((Below.refl _ _).alloc (Nat.le_refl _) _)
        have BA := Lib.hid (Blk.new wr 33 #[.int .i64 qi, .int .i64 qo, .int .i64 qp, .int .i64 qa, .int .i64 qpl, .bool qb])
        obtain ⟨g, hg⟩ : ∃ g, Hid (wr.heap.size = g) := ⟨_, Lib.hid rfl⟩
        rw [hg.out] at BA ⊢
        generalize World.alloc wr _ = wy at hbA BA ⊢
        clear c0 c1 c2 c3 c4 c5
        have HX : Hid (∀ wx, Below wy.heap.size wy wx → (wx.cell? ⟨g, 0, none⟩ = some (.int .i64 qi) ∧ wx.cell? ⟨g, 1, none⟩ = some (.int .i64 qo) ∧ wx.cell? ⟨g, 2, none⟩ = some (.int .i64 qp) ∧ wx.cell? ⟨g, 3, none⟩ = some (.int .i64 qa) ∧ wx.cell? ⟨g, 4, none⟩ = some (.int .i64 qpl) ∧ wx.cell? ⟨g, 5, none⟩ = some (.bool qb))) := Lib.hid fun wx hh => by
          have b0 := BA.out.below hh BA.out.lt
          exact ⟨b0.cell 0, b0.cell 1, b0.cell 2, b0.cell 3, b0.cell 4, b0.cell 5⟩
        have hF2 : Hid (Mine w0 wy 6 (.slice (some ⟨b, o, none⟩) m c) m (ocells F)) := Lib.hid (hF.out.below hbA.out)
        have hbb : Hid (Below w0.heap.size w0 wy) := Lib.hid (hb.out.trans (hbA.out.mono hb.out.size))
        obtain ⟨c0, c1, c2, c3, c4, c5⟩ := HX.out wy (Below.refl _ _)
        go_upto_region 9 with (go_at_call 58; (with_reducible refine (HRr.out _).mono ?_); rintro e w2 ⟨rfl, hh⟩; have hb2 := Lib.hid hh; clear hh)
        clear c0 c1 c2 c3 c4 c5
        obtain ⟨c0, c1, c2, c3, c4, c5⟩ := HX.out w2 hb2.out
        have hF3 : Hid (Mine w0 w2 6 (.slice (some ⟨b, o, none⟩) m c) m (ocells F)) := Lib.hid (hF2.out.below hb2.out)
        have hbc : Hid (Below w0.heap.size w0 w2) := Lib.hid (hbb.out.trans (hb2.out.mono hbb.out.size))
        obtain ⟨g', off', he, hg', hce, hMi⟩ := hF3.out.over (p := i * 6) (vs := ocell ⟨qi, qo, qp, qa, qpl, qb⟩) (by rw [ocell_length]; omega) (by rw [ocell_length]; omega)
        cases he
        rw [over_ocells F (by rw [hFl.out]; omega)] at hMi
        have s0 := hce 0 (by rw [ocell_length]; omega)
        have s1 := hce 1 (by rw [ocell_length]; omega)
        have s2 := hce 2 (by rw [ocell_length]; omega)
        have s3 := hce 3 (by rw [ocell_length]; omega)
        have s4 := hce 4 (by rw [ocell_length]; omega)
        have s5 := hce 5 (by rw [ocell_length]; omega)
        clear hce
        obtain ⟨s0, f0⟩ := s0
        obtain ⟨x0, s0⟩ := Option.isSome_iff_exists.1 s0
        obtain ⟨s1, f1⟩ := s1
        obtain ⟨x1, s1⟩ := Option.isSome_iff_exists.1 s1
        obtain ⟨s2, f2⟩ := s2
        obtain ⟨x2, s2⟩ := Option.isSome_iff_exists.1 s2
        obtain ⟨s3, f3⟩ := s3
        obtain ⟨x3, s3⟩ := Option.isSome_iff_exists.1 s3
        obtain ⟨s4, f4⟩ := s4
        obtain ⟨x4, s4⟩ := Option.isSome_iff_exists.1 s4
        obtain ⟨s5, f5⟩ := s5
        obtain ⟨x5, s5⟩ := Option.isSome_iff_exists.1 s5
        rw [Nat.add_zero] at s0 f0
        have HMi : Hid (Mine w0 ((((((w2.setCell ⟨b, o + i * 6, none⟩ (.int .i64 qi)).setCell ⟨b, o + i * 6 + 1, none⟩ (.int .i64 qo)).setCell ⟨b, o + i * 6 + 2, none⟩ (.int .i64 qp)).setCell ⟨b, o + i * 6 + 3, none⟩ (.int .i64 qa)).setCell ⟨b, o + i * 6 + 4, none⟩ (.int .i64 qpl)).setCell ⟨b, o + i * 6 + 5, none⟩ (.bool qb)) 6 (.slice (some ⟨b, o, none⟩) m c) m (ocells (F.set i ⟨qi, qo, qp, qa, qpl, qb⟩))) := Lib.hid hMi
        have HBi : Hid (Below w0.heap.size w0 ((((((w2.setCell ⟨b, o + i * 6, none⟩ (.int .i64 qi)).setCell ⟨b, o + i * 6 + 1, none⟩ (.int .i64 qo)).setCell ⟨b, o + i * 6 + 2, none⟩ (.int .i64 qp)).setCell ⟨b, o + i * 6 + 3, none⟩ (.int .i64 qa)).setCell ⟨b, o + i * 6 + 4, none⟩ (.int .i64 qpl)).setCell ⟨b, o + i * 6 + 5, none⟩ (.bool qb))) := Lib.hid ((((((hbc.out.setCell (p := ⟨b, _, none⟩) hg' _).setCell (p := ⟨b, _, none⟩) hg' _).setCell (p := ⟨b, _, none⟩) hg' _).setCell (p := ⟨b, _, none⟩) hg' _).setCell (p := ⟨b, _, none⟩) hg' _).setCell (p := ⟨b, _, none⟩) hg' _)
        clear hMi
        go_wp2
        go_roundg (m + 1 - (j + 1))
        case measure => exact HM.out
        case rel => exact ⟨i + 1, j + 1, F.set i ⟨qi, qo, qp, qa, qpl, qb⟩, rfl, by omega, by go_num, by go_num, e1, HMi, HBi⟩
    · obtain rfl : m = j := by omega
      have him : i < m := hij
      have hFF := hI.out
      have hdn : Hid (F.take i = L.filter Ord.right ∧ (L.filter Ord.right).length = i) := Lib.hid (by
        have h1 := hI.out
        rw [← hm.out] at h1
        exact h1.done)
      obtain ⟨gg, off, he, hgg, hce, hMi⟩ := hF.out.over (p := i * 6) (vs := (Builtin.zeroCells #[.int .i64 0, .int .i64 0, .int .i64 0, .int .i64 0, .int .i64 0, .bool false] (m - i)).toList) (by rw [zeroCells_length]; simp; omega) (by rw [zeroCells_length]; simp; omega)
      subst he
      have imI : (i : Int) ≤ (m : Int) := by omega
      have hcm := (hF.out.orow hFl.out).1
      have mcI : (m : Int) ≤ (c : Int) := by omega
      have hcl : ∀ cc, (Builtin.clear_ #[22] 0 #[.slice (some ⟨gg, off + i * 6, none⟩) (m - i) cc]).run Try.prog wr = .ok (.tuple #[]) (wr.setCells gg (off + i * 6) (Builtin.zeroCells #[.int .i64 0, .int .i64 0, .int .i64 0, .int .i64 0, .int .i64 0, .bool false] (m - i)).toList) := fun cc => by
        refine run_clear_rows wr _ _ 0 (.agg #[.int .i64 0, .int .i64 0, .int .i64 0, .int .i64 0, .int .i64 0, .bool false]) Try.underlying22 (fun wx => ?_) (by decide) gg _ (m - i) cc (by omega) fun k hk => hce k (by rw [zeroCells_length]; exact hk)
        obtain ⟨i1, hi1, hy0, _, _⟩ := info_parts info_order
        simp [zeroValue]
        rfl
      have HBz : Hid (Below w0.heap.size w0 (wr.setCells gg (off + i * 6) (Builtin.zeroCells #[.int .i64 0, .int .i64 0, .int .i64 0, .int .i64 0, .int .i64 0, .bool false] (m - i)).toList)) := Lib.hid ((Only.of_below (S := fun b => b = gg) hb.out).trans (only_setCells _ _ _ _) (fun x hx => .inl hx) |>.below (Nat.le_refl _) fun x hx => hx ▸ hgg)
      generalize wr.setCells gg _ _ = wz at hcl hMi HBz
      have HMz := Lib.hid hMi
      clear hMi hce
      go_upto_region 11 with (fail)
      go_wp2
      refine bodyPost_ret (by simp [results, Try.results44, asAddr, go_sem]; rfl) rfl ?_
      have hfin := mine_front HMz.out hFl.out him hcm
      rw [hdn.out.1] at hfin
      exact ⟨some ⟨gg, off, none⟩, c, by rw [hdn.out.2], by rw [hdn.out.2]; exact hfin, HBz.out⟩
end Go.Proofs.Ytilbhnloelgpdaa
