/- slices.DeleteFunc at orders and Clear's own function: those without an amount go. -/
import Derived.Test.YtilbhnloelgpdaaBkP
namespace Go.Proofs.Ytilbhnloelgpdaa
open Go.RowKit
set_option linter.unusedVariables false
set_option linter.unusedSimpArgs false
def Ord.live (o : Ord) : Bool := !(o.amount == 0)
theorem filter_live (o : Ord) : [o].filter Ord.live = if o.live = true then [o] else [] := by
  by_cases h : o.live = true <;> simp [h]
set_option maxHeartbeats 2000000 in
theorem dead_calls (w : World) (o : Ord) : Calls Try.prog 45 #[oval o] w (Told w (.bool (!o.live))) := by
  have e : (!o.live) = (o.amount == 0) := by unfold Ord.live; simp
  rw [e]
  obtain ⟨i, ow, p, a, pl, b⟩ := o
  unfold oval
  simp only
  have hb0 : Hid (Below w.heap.size w (w.alloc (.cells #[.int .i64 i, .int .i64 ow, .int .i64 p, .int .i64 a, .int .i64 pl, .bool b] 33))) := Lib.hid ((Below.refl _ _).alloc (Nat.le_refl _) _)
  have B0 := Lib.hid (Blk.new w 33 #[.int .i64 i, .int .i64 ow, .int .i64 p, .int .i64 a, .int .i64 pl, .bool b])
  go_enter Try.func45, Try.ntmps45
  go_upto_region 1 with (fail)
  obtain ⟨g, hg⟩ : ∃ g, w.heap.size = g := ⟨_, rfl⟩
  rw [hg] at B0 ⊢
  clear hg
  generalize World.alloc w _ = wy at hb0 B0 ⊢
  have c3 : wy.cell? ⟨g, 3, none⟩ = some (.int .i64 a) := B0.out.cell 3
  go_wp2
  refine bodyPost_ret (by simp [results, Try.results45, asAddr, go_sem]; rfl) rfl ?_
  exact ⟨rfl, hb0.out⟩
/-- So many orders in front are right. -/
def leadz (L : List Ord) : Nat := (L.takeWhile Ord.live).length
theorem leadz_le (L : List Ord) : leadz L ≤ L.length := (List.takeWhile_sublist _).length_le
theorem leadz_stop : ∀ (L : List Ord) (i : Nat), i < L.length → (∀ j, j < i → (L.getD j ord0).live = true) → (L.getD i ord0).live = false → leadz L = i
  | [], i, h, _, _ => by simp at h
  | o :: l, 0, _, _, h2 => by
    unfold leadz
    rw [List.takeWhile_cons_of_neg (by simpa using h2)]; rfl
  | o :: l, i + 1, h, h1, h2 => by
    have h0 : o.live = true := h1 0 (by omega)
    have := leadz_stop l i (by simpa using h) (fun j hj => h1 (j + 1) (by omega)) (by simpa using h2)
    unfold leadz at *
    rw [List.takeWhile_cons_of_pos h0, List.length_cons, this]
theorem leadz_all : ∀ (L : List Ord), (∀ j, j < L.length → (L.getD j ord0).live = true) → leadz L = L.length
  | [], _ => rfl
  | o :: l, h => by
    have h0 : o.live = true := h 0 (by simp)
    have := leadz_all l fun j hj => h (j + 1) (by simpa using hj)
    unfold leadz at *
    rw [List.takeWhile_cons_of_pos h0, List.length_cons, this, List.length_cons]
set_option maxHeartbeats 2000000 in
theorem indexz_calls (w : World) (A : Option Addr) (L : List Ord) (c : Nat) (h : ORow w A L) (hl : L.length ≤ 64) :
    Calls Try.prog 62 #[.slice A L.length c, .func (.func 45) #[] #[]] w (Told w (.int .i64 (if leadz L = L.length then -1 else (leadz L : Int)))) := by
  have H := Lib.hid h
  obtain ⟨m, hm⟩ : ∃ m, Hid (L.length = m) := ⟨_, Lib.hid rfl⟩
  have HR := Lib.hid (fun wx o => dead_calls wx o)
  have HS := Lib.hid (leadz_stop L)
  have HA := Lib.hid (leadz_all L)
  obtain ⟨d, hd⟩ : ∃ d, Hid (leadz L = d) := ⟨_, Lib.hid rfl⟩
  rw [hm.out] at hl HS HA ⊢
  rw [hd.out] at HS HA ⊢
  obtain ⟨R, hR⟩ : ∃ R, Hid ((if d = m then -1 else (d : Int)) = R) := ⟨_, Lib.hid rfl⟩
  rw [hR.out]
  clear h
  go_enter Try.func62, Try.ntmps62
  go_wp2
  go_loopg [5, 8] (m + 1) (fun gk s5 s8 wr => ∃ i : Nat, gk = m + 1 - i ∧ i ≤ m ∧ s8 = .int .i64 (i : Int) ∧ Hid (∀ j, j < i → (L.getD j ord0).live = true) ∧ Hid (Below w.heap.size w wr))
  case atStart => exact ⟨0, rfl, Nat.zero_le _, rfl, Lib.hid fun j hj => absurd hj (Nat.not_lt_zero _), Lib.hid (Below.refl _ _)⟩
  case round =>
    obtain ⟨i, rfl, hi, rfl, hal, hb⟩ := hrel
    have i0 : (0 : Int) ≤ (i : Int) := by omega
    by_cases hlt : i < m
    · have hltI : (i : Int) < (m : Int) := by omega
      have hlL : Hid (i < L.length) := Lib.hid (by rw [hm.out]; exact hlt)
      obtain ⟨b, o, rfl⟩ : ∃ b o, A = some ⟨b, o, none⟩ := by
        obtain ⟨b, o, e, _⟩ := H.out.cells hlL.out
        exact ⟨b, o, e⟩
      have HC := Lib.hid (fun wx hh => ORow.six H.out hlL.out (w' := wx) hh)
      have HRr := Lib.hid (fun wx => HR.out wx (L.getD i ord0))
      have HSt := Lib.hid (HS.out i hlt hal.out)
      have HNx : Hid ((L.getD i ord0).live = true → ∀ j, j < i + 1 → (L.getD j ord0).live = true) := Lib.hid fun hr j hj => by
        rcases Nat.lt_or_eq_of_le (Nat.le_of_lt_succ hj) with h | h
        · exact hal.out j h
        · rw [h]; exact hr
      have HM := Lib.hid (show m + 1 - (i + 1) < m + 1 - i by omega)
      generalize L.getD i ord0 = q at HC HRr HSt HNx
      obtain ⟨qi, qo, qp, qa, qpl, qb⟩ := q
      unfold oval at HRr
      simp only at HC HRr
      generalize Ord.live ⟨qi, qo, qp, qa, qpl, qb⟩ = r at HRr HSt HNx
      obtain ⟨c0, c1, c2, c3, c4, c5⟩ := HC.out wr hb.out
      cases r with
      | false =>
        have e1 := HSt.out rfl
        subst e1
        have hne : d ≠ m := by omega
        have hR' := hR.out
        rw [if_neg hne] at hR'
        subst hR'
        go_wp2_with (go_at_call 45; (with_reducible refine (HRr.out _).mono ?_); rintro e w1 ⟨rfl, hh⟩; have hb1 := Lib.hid (below_next hb.out hh); clear hh)
        refine bodyPost_ret (by simp [results, Try.results62, asAddr, go_sem]; rfl) rfl ?_
        exact ⟨rfl, hb1.out⟩
      | true =>
        have hn := HNx.out rfl
        have HN := Lib.hid hn
        clear hn
        go_wp2_with (go_at_call 45; (with_reducible refine (HRr.out _).mono ?_); rintro e w1 ⟨rfl, hh⟩; have hb1 := Lib.hid (below_next hb.out hh); clear hh)
        go_roundg (m + 1 - (i + 1))
        case measure => exact HM.out
        case rel => exact ⟨i + 1, rfl, by omega, by go_num, HN, hb1⟩
    · obtain rfl : m = i := by omega
      have e1 := HA.out hal.out
      subst e1
      have hR' := hR.out
      rw [if_pos rfl] at hR'
      subst hR'
      go_wp2
      refine bodyPost_ret (by simp [results, Try.results62, asAddr, go_sem]; rfl) rfl ?_
      exact ⟨rfl, hb.out⟩
theorem mem_twz : ∀ {L : List Ord} {o : Ord}, o ∈ L.takeWhile Ord.live → o.live = true
  | [], o, h => by simp at h
  | q :: l, o, h => by
    by_cases hq : q.live = true
    · rw [List.takeWhile_cons_of_pos hq, List.mem_cons] at h
      rcases h with h | h
      · rw [h]; exact hq
      · exact mem_twz h
    · rw [List.takeWhile_cons_of_neg hq] at h; simp at h
structure DInz (L F : List Ord) (i j : Nat) : Prop where
  len : F.length = L.length
  front : F.take i = (L.take j).filter Ord.live
  back : F.drop j = L.drop j
  lt : i < j
theorem leadz_front : ∀ (L : List Ord) (j : Nat), j < leadz L → (L.getD j ord0).live = true
  | [], j, h => by simp [leadz] at h
  | o :: l, j, h => by
    unfold leadz at h
    by_cases ho : o.live = true
    · rw [List.takeWhile_cons_of_pos ho, List.length_cons] at h
      cases j with
      | zero => exact ho
      | succ j => exact leadz_front l j (by unfold leadz; omega)
    · rw [List.takeWhile_cons_of_neg ho] at h; simp at h
theorem take_leadz (L : List Ord) : L.take (leadz L) = L.takeWhile Ord.live := by
  induction L with
  | nil => rfl
  | cons o l ih =>
    unfold leadz at *
    by_cases ho : o.live = true
    · rw [List.takeWhile_cons_of_pos ho, List.length_cons, List.take_succ_cons, ih]
    · rw [List.takeWhile_cons_of_neg ho]; rfl
theorem leadz_wrong : ∀ (L : List Ord), leadz L < L.length → (L.getD (leadz L) ord0).live = false
  | [], h => by simp [leadz] at h
  | o :: l, h => by
    by_cases ho : o.live = true
    · have e : leadz (o :: l) = leadz l + 1 := by unfold leadz; rw [List.takeWhile_cons_of_pos ho, List.length_cons]
      rw [e] at h ⊢
      exact leadz_wrong l (by simpa using h)
    · have e : leadz (o :: l) = 0 := by unfold leadz; rw [List.takeWhile_cons_of_neg ho]; rfl
      rw [e]; simpa using ho
theorem filter_wholez {L : List Ord} (h : leadz L = L.length) : L.filter Ord.live = L := by
  have h1 := take_leadz L
  rw [h, List.take_length] at h1
  rw [List.filter_eq_self]
  intro o ho
  rw [h1] at ho
  exact mem_twz ho
theorem DInz.start {L : List Ord} (h : leadz L < L.length) : DInz L L (leadz L) (leadz L + 1) := by
  refine ⟨rfl, ?_, rfl, Nat.lt_succ_self _⟩
  rw [Ca.take_at L h, List.filter_append, filter_live, leadz_wrong L h, if_neg (by simp), List.append_nil, take_leadz]
  exact (List.filter_eq_self.2 fun o ho => mem_twz ho).symm
theorem DInz.at_ {L F : List Ord} {i j : Nat} (h : DInz L F i j) (hj : j < L.length) : F.getD j ord0 = L.getD j ord0 := by
  have e := congrArg (fun l => l.getD 0 ord0) h.back
  simpa [List.getD_eq_getElem?_getD, List.getElem?_drop] using e
theorem DInz.wrong {L F : List Ord} {i j : Nat} (h : DInz L F i j) (hj : j < L.length) (hr : (L.getD j ord0).live = false) : DInz L F i (j + 1) := by
  refine ⟨h.len, ?_, ?_, Nat.lt_succ_of_lt h.lt⟩
  · rw [Ca.take_at L hj, List.filter_append, filter_live, hr, if_neg (by simp), List.append_nil]; exact h.front
  · have e := congrArg (List.drop 1) h.back
    simpa [List.drop_drop] using e
theorem DInz.next {L F : List Ord} {i j : Nat} (h : DInz L F i j) (hj : j < L.length) (hr : (L.getD j ord0).live = true) : DInz L (F.set i (L.getD j ord0)) (i + 1) (j + 1) := by
  have hl := h.len
  have hle := h.lt
  refine ⟨by rw [List.length_set]; exact hl, ?_, ?_, Nat.succ_lt_succ hle⟩
  · rw [Ca.take_at L hj, List.filter_append, filter_live, if_pos hr, ← h.front]
    have hi : i < (F.set i (L.getD j ord0)).length := by rw [List.length_set]; omega
    rw [List.take_succ_eq_append_getElem hi, List.getElem_set_self, List.take_set_of_le (Nat.le_refl _)]
  · have e := congrArg (List.drop 1) h.back
    rw [List.drop_set_of_lt (by omega)]
    simpa [List.drop_drop] using e
theorem DInz.done {L F : List Ord} {i : Nat} (h : DInz L F i L.length) : F.take i = L.filter Ord.live ∧ (L.filter Ord.live).length = i := by
  have h1 := h.front
  rw [List.take_length] at h1
  refine ⟨h1, ?_⟩
  rw [← h1, List.length_take, h.len]
  have := h.lt
  omega
/-- The list R is left, in the row's own block. -/
def LeftO (w0 : World) (bk : Option Nat) (R : List Ord) (e : Ending) (w' : World) : Prop := ∃ A c, e = .returned (.slice A R.length c) ∧ Own w' 6 (.slice A R.length c) bk R.length (ocells R) ∧ Only (fun k => some k = bk) w0 w'
set_option maxHeartbeats 4000000 in
set_option maxRecDepth 100000 in
theorem deletez_calls (w : World) (A : Option Addr) (L : List Ord) (c : Nat) (bk : Option Nat) (h : Own w 6 (.slice A L.length c) bk L.length (ocells L)) (hl : L.length ≤ 64) :
    Calls Try.prog 44 #[.slice A L.length c, .func (.func 45) #[] #[]] w (LeftO w bk (L.filter Ord.live)) := by
  have H := Lib.hid h
  obtain ⟨m, hm⟩ : ∃ m, Hid (L.length = m) := ⟨_, Lib.hid rfl⟩
  have HI : Hid (∀ wx, Below w.heap.size w wx → Calls Try.prog 62 #[.slice A m c, .func (.func 45) #[] #[]] wx (Told wx (.int .i64 (if leadz L = m then -1 else (leadz L : Int))))) := Lib.hid fun wx hx => by
    have := indexz_calls wx A L c ((h.orow rfl).2.2.below hx) hl
    rwa [hm.out] at this
  obtain ⟨d, hd⟩ : ∃ d, Hid (leadz L = d) := ⟨_, Lib.hid rfl⟩
  rw [hd.out] at HI
  rw [hm.out] at hl ⊢
  have HdL := Lib.hid (leadz_le L)
  rw [hd.out, hm.out] at HdL
  have hdl := HdL.out
  clear h
  by_cases hdm : d = m
  · have HI2 : Hid (∀ wx, Below w.heap.size w wx → Calls Try.prog 62 #[.slice A m c, .func (.func 45) #[] #[]] wx (Told wx (.int .i64 (-1)))) := Lib.hid fun wx hx => by
      have := HI.out wx hx
      rwa [if_pos hdm] at this
    have hf : Hid (L.filter Ord.live = L) := Lib.hid (filter_wholez (by rw [hd.out, hm.out]; exact hdm))
    rw [hf.out]
    clear HI
    go_enter Try.func44, Try.ntmps44
    go_wp2_with (go_at_call 62; (with_reducible refine (HI2.out _ (Below.refl _ _)).mono ?_); rintro e w1 ⟨rfl, hh⟩; have hb1 := Lib.hid hh; clear hh)
    refine bodyPost_ret (by simp [results, Try.results44, asAddr, go_sem]; rfl) rfl ?_
    have hz := H.out.below hb1.out
    exact ⟨A, c, by rw [hm.out], hz, Only.of_below hb1.out⟩
  have HI2 : Hid (∀ wx, Below w.heap.size w wx → Calls Try.prog 62 #[.slice A m c, .func (.func 45) #[] #[]] wx (Told wx (.int .i64 (d : Int)))) := Lib.hid fun wx hx => by
    have := HI.out wx hx
    rwa [if_neg hdm] at this
  have hd1 : d + 1 ≤ m := by omega
  have HSt : Hid (DInz L L d (d + 1)) := Lib.hid (by
    have := DInz.start (L := L) (by rw [hd.out, hm.out]; omega)
    rwa [hd.out] at this)
  have hdB : ((d : Int) == -1) = false := by
    rw [beq_eq_false_iff_ne]; omega
  have d0 : (0 : Int) ≤ (d : Int) := by omega
  have q0 : IntKind.i64.wrap ((d : Int) + 1) = (d : Int) + 1 := by rw [IntKind.wrap_i64]; omega
  have HR := Lib.hid (fun wx o => dead_calls wx o)
  clear HI
  go_enter Try.func44, Try.ntmps44
  go_upto_region 5 with (go_at_call 62; (with_reducible refine (HI2.out _ (Below.refl _ _)).mono ?_); rintro e w1 ⟨rfl, hh⟩; have hb1 := Lib.hid hh; clear hh)
  go_loopg [5, 6] (m + 1 - (d + 1)) (fun gk s5 s6 wr => ∃ (i j : Nat) (F : List Ord), gk = m + 1 - j ∧ j ≤ m ∧ s5 = .int .i64 (i : Int) ∧ s6 = .int .i64 (j : Int) ∧ Hid (DInz L F i j) ∧ Hid (Own wr 6 (.slice A m c) bk m (ocells F)) ∧ Hid (Only (fun k => some k = bk) w wr))
  case atStart => exact ⟨d, d + 1, L, rfl, hd1, rfl, by go_num, HSt, Lib.hid (by have := H.out.below hb1.out; rwa [hm.out] at this), Lib.hid (Only.of_below hb1.out)⟩
  case round =>
    obtain ⟨i, j, F, rfl, hj, rfl, rfl, hI, hF, hb⟩ := hrel
    have i0 : (0 : Int) ≤ (i : Int) := by omega
    have j0 : (0 : Int) ≤ (j : Int) := by omega
    have hij := hI.out.lt
    have hFl : Hid (F.length = m) := Lib.hid (by rw [hI.out.len, hm.out])
    by_cases hlt : j < m
    · have hltI : (j : Int) < (m : Int) := by omega
      have him : (i : Int) < (m : Int) := by omega
      have hOF : Hid (ORow wr A F) := Lib.hid (hF.out.orow hFl.out).2.2
      have hlF : Hid (j < F.length) := Lib.hid (by rw [hFl.out]; exact hlt)
      have hlL : Hid (j < L.length) := Lib.hid (by rw [hm.out]; exact hlt)
      obtain ⟨b, o, rfl⟩ : ∃ b o, A = some ⟨b, o, none⟩ := by
        obtain ⟨b, o, e, _⟩ := hOF.out.cells hlF.out
        exact ⟨b, o, e⟩
      have HC := Lib.hid (fun wx hh => ORow.six hOF.out hlF.out (w' := wx) hh)
      have HRr := Lib.hid (fun wx => HR.out wx (L.getD j ord0))
      have hBad := Lib.hid (hI.out.wrong hlL.out)
      have hNx := Lib.hid (hI.out.next hlL.out)
      have HM := Lib.hid (show m + 1 - (j + 1) < m + 1 - j by omega)
      rw [hI.out.at_ hlL.out] at HC
      generalize L.getD j ord0 = q at HC hBad hNx HRr
      obtain ⟨qi, qo, qp, qa, qpl, qb⟩ := q
      unfold oval at HRr
      simp only at HC HRr
      have hRq := Lib.hid (rfl : Ord.live ⟨qi, qo, qp, qa, qpl, qb⟩ = Ord.live ⟨qi, qo, qp, qa, qpl, qb⟩)
      obtain ⟨c0, c1, c2, c3, c4, c5⟩ := HC.out wr (Below.refl _ _)
      generalize Ord.live ⟨qi, qo, qp, qa, qpl, qb⟩ = r at hBad hNx HRr hRq
      cases r with
      | false =>
        have e1 := Lib.hid (hBad.out rfl)
        clear hNx hBad
        go_upto_region 8 with (fail)
        have hbA : Hid (Below wr.heap.size wr (wr.alloc (.cells #[.int .i64 qi, .int .i64 qo, .int .i64 qp, .int .i64 qa, .int .i64 qpl, .bool qb] 33))) := Lib.hid ((Below.refl _ _).alloc (Nat.le_refl _) _)
        have BA := Lib.hid (Blk.new wr 33 #[.int .i64 qi, .int .i64 qo, .int .i64 qp, .int .i64 qa, .int .i64 qpl, .bool qb])
        obtain ⟨g, hg⟩ : ∃ g, Hid (wr.heap.size = g) := ⟨_, Lib.hid rfl⟩
        rw [hg.out] at BA ⊢
        generalize World.alloc wr _ = wy at hbA BA ⊢
        clear c0 c1 c2 c3 c4 c5
        have HX : Hid (∀ wx, Below wy.heap.size wy wx → (wx.cell? ⟨g, 0, none⟩ = some (.int .i64 qi) ∧ wx.cell? ⟨g, 1, none⟩ = some (.int .i64 qo) ∧ wx.cell? ⟨g, 2, none⟩ = some (.int .i64 qp) ∧ wx.cell? ⟨g, 3, none⟩ = some (.int .i64 qa) ∧ wx.cell? ⟨g, 4, none⟩ = some (.int .i64 qpl) ∧ wx.cell? ⟨g, 5, none⟩ = some (.bool qb))) := Lib.hid fun wx hh => by
          have b0 := BA.out.below hh BA.out.lt
          exact ⟨b0.cell 0, b0.cell 1, b0.cell 2, b0.cell 3, b0.cell 4, b0.cell 5⟩
        have hF2 : Hid (Own wy 6 (.slice (some ⟨b, o, none⟩) m c) bk m (ocells F)) := Lib.hid (hF.out.below hbA.out)
        have hbb : Hid (Only (fun k => some k = bk) w wy) := Lib.hid (hb.out.then_below hbA.out)
        obtain ⟨c0, c1, c2, c3, c4, c5⟩ := HX.out wy (Below.refl _ _)
        go_wp2_with (go_at_call 45; (with_reducible refine (HRr.out _).mono ?_); rintro e w2 ⟨rfl, hh⟩; have hb2 := Lib.hid hh; clear hh)
        go_roundg (m + 1 - (j + 1))
        case measure => exact HM.out
        case rel => exact ⟨i, j + 1, F, rfl, by omega, rfl, by go_num, e1, Lib.hid (hF2.out.below hb2.out), Lib.hid (hbb.out.then_below hb2.out)⟩
      | true =>
        have e1 := Lib.hid (hNx.out rfl)
        clear hNx hBad
        go_upto_region 8 with (fail)
        have hbA : Hid (Below wr.heap.size wr (wr.alloc (.cells #[.int .i64 qi, .int .i64 qo, .int .i64 qp, .int .i64 qa, .int .i64 qpl, .bool qb] 33))) := Lib.hid ((Below.refl _ _).alloc (Nat.le_refl _) _)
        have BA := Lib.hid (Blk.new wr 33 #[.int .i64 qi, .int .i64 qo, .int .i64 qp, .int .i64 qa, .int .i64 qpl, .bool qb])
        obtain ⟨g, hg⟩ : ∃ g, Hid (wr.heap.size = g) := ⟨_, Lib.hid rfl⟩
        rw [hg.out] at BA ⊢
        generalize World.alloc wr _ = wy at hbA BA ⊢
        clear c0 c1 c2 c3 c4 c5
        have HX : Hid (∀ wx, Below wy.heap.size wy wx → (wx.cell? ⟨g, 0, none⟩ = some (.int .i64 qi) ∧ wx.cell? ⟨g, 1, none⟩ = some (.int .i64 qo) ∧ wx.cell? ⟨g, 2, none⟩ = some (.int .i64 qp) ∧ wx.cell? ⟨g, 3, none⟩ = some (.int .i64 qa) ∧ wx.cell? ⟨g, 4, none⟩ = some (.int .i64 qpl) ∧ wx.cell? ⟨g, 5, none⟩ = some (.bool qb))) := Lib.hid fun wx hh => by
          have b0 := BA.out.below hh BA.out.lt
          exact ⟨b0.cell 0, b0.cell 1, b0.cell 2, b0.cell 3, b0.cell 4, b0.cell 5⟩
        have hF2 : Hid (Own wy 6 (.slice (some ⟨b, o, none⟩) m c) bk m (ocells F)) := Lib.hid (hF.out.below hbA.out)
        have hbb : Hid (Only (fun k => some k = bk) w wy) := Lib.hid (hb.out.then_below hbA.out)
        obtain ⟨c0, c1, c2, c3, c4, c5⟩ := HX.out wy (Below.refl _ _)
        go_upto_region 9 with (go_at_call 45; (with_reducible refine (HRr.out _).mono ?_); rintro e w2 ⟨rfl, hh⟩; have hb2 := Lib.hid hh; clear hh)
        clear c0 c1 c2 c3 c4 c5
        obtain ⟨c0, c1, c2, c3, c4, c5⟩ := HX.out w2 hb2.out
        have hF3 : Hid (Own w2 6 (.slice (some ⟨b, o, none⟩) m c) bk m (ocells F)) := Lib.hid (hF2.out.below hb2.out)
        have hbc : Hid (Only (fun k => some k = bk) w w2) := Lib.hid (hbb.out.then_below hb2.out)
        obtain ⟨g', off', hg', he, hce, hMi⟩ := hF3.out.over (p := i * 6) (vs := ocell ⟨qi, qo, qp, qa, qpl, qb⟩) (by rw [ocell_length]; omega) (by rw [ocell_length]; omega)
        cases he
        rw [over_ocells F (by rw [hFl.out]; omega)] at hMi
        have s0 := hce 0 (by rw [ocell_length]; omega)
        have s1 := hce 1 (by rw [ocell_length]; omega)
        have s2 := hce 2 (by rw [ocell_length]; omega)
        have s3 := hce 3 (by rw [ocell_length]; omega)
        have s4 := hce 4 (by rw [ocell_length]; omega)
        have s5 := hce 5 (by rw [ocell_length]; omega)
        clear hce
        obtain ⟨s0, f0⟩ := s0
        obtain ⟨x0, s0⟩ := Option.isSome_iff_exists.1 s0
        obtain ⟨s1, f1⟩ := s1
        obtain ⟨x1, s1⟩ := Option.isSome_iff_exists.1 s1
        obtain ⟨s2, f2⟩ := s2
        obtain ⟨x2, s2⟩ := Option.isSome_iff_exists.1 s2
        obtain ⟨s3, f3⟩ := s3
        obtain ⟨x3, s3⟩ := Option.isSome_iff_exists.1 s3
        obtain ⟨s4, f4⟩ := s4
        obtain ⟨x4, s4⟩ := Option.isSome_iff_exists.1 s4
        obtain ⟨s5, f5⟩ := s5
        obtain ⟨x5, s5⟩ := Option.isSome_iff_exists.1 s5
        rw [Nat.add_zero] at s0 f0
        have HMi : Hid (Own ((((((w2.setCell ⟨b, o + i * 6, none⟩ (.int .i64 qi)).setCell ⟨b, o + i * 6 + 1, none⟩ (.int .i64 qo)).setCell ⟨b, o + i * 6 + 2, none⟩ (.int .i64 qp)).setCell ⟨b, o + i * 6 + 3, none⟩ (.int .i64 qa)).setCell ⟨b, o + i * 6 + 4, none⟩ (.int .i64 qpl)).setCell ⟨b, o + i * 6 + 5, none⟩ (.bool qb)) 6 (.slice (some ⟨b, o, none⟩) m c) bk m (ocells (F.set i ⟨qi, qo, qp, qa, qpl, qb⟩))) := Lib.hid hMi
        have HBi : Hid (Only (fun k => some k = bk) w ((((((w2.setCell ⟨b, o + i * 6, none⟩ (.int .i64 qi)).setCell ⟨b, o + i * 6 + 1, none⟩ (.int .i64 qo)).setCell ⟨b, o + i * 6 + 2, none⟩ (.int .i64 qp)).setCell ⟨b, o + i * 6 + 3, none⟩ (.int .i64 qa)).setCell ⟨b, o + i * 6 + 4, none⟩ (.int .i64 qpl)).setCell ⟨b, o + i * 6 + 5, none⟩ (.bool qb))) := Lib.hid ((((((hbc.out.setCell (.inl hg'.symm) _).setCell (.inl hg'.symm) _).setCell (.inl hg'.symm) _).setCell (.inl hg'.symm) _).setCell (.inl hg'.symm) _).setCell (.inl hg'.symm) _)
        clear hMi
        go_wp2
        go_roundg (m + 1 - (j + 1))
        case measure => exact HM.out
        case rel => exact ⟨i + 1, j + 1, F.set i ⟨qi, qo, qp, qa, qpl, qb⟩, rfl, by omega, by go_num, by go_num, e1, HMi, HBi⟩
    · obtain rfl : m = j := by omega
      have him : i < m := hij
      have hFF := hI.out
      have hdn : Hid (F.take i = L.filter Ord.live ∧ (L.filter Ord.live).length = i) := Lib.hid (by
        have h1 := hI.out
        rw [← hm.out] at h1
        exact h1.done)
      obtain ⟨gg, off, hgg, he, hce, hMi⟩ := hF.out.over (p := i * 6) (vs := (Builtin.zeroCells #[.int .i64 0, .int .i64 0, .int .i64 0, .int .i64 0, .int .i64 0, .bool false] (m - i)).toList) (by rw [zeroCells_length]; simp; omega) (by rw [zeroCells_length]; simp; omega)
      subst he
      have imI : (i : Int) ≤ (m : Int) := by omega
      have hcm := (hF.out.orow hFl.out).1
      have mcI : (m : Int) ≤ (c : Int) := by omega
      have hcl : ∀ cc, (Builtin.clear_ #[22] 0 #[.slice (some ⟨gg, off + i * 6, none⟩) (m - i) cc]).run Try.prog wr = .ok (.tuple #[]) (wr.setCells gg (off + i * 6) (Builtin.zeroCells #[.int .i64 0, .int .i64 0, .int .i64 0, .int .i64 0, .int .i64 0, .bool false] (m - i)).toList) := fun cc => by
        refine run_clear_rows wr _ _ 0 (.agg #[.int .i64 0, .int .i64 0, .int .i64 0, .int .i64 0, .int .i64 0, .bool false]) Try.underlying22 (fun wx => ?_) (by decide) gg _ (m - i) cc (by omega) fun k hk => hce k (by rw [zeroCells_length]; exact hk)
        obtain ⟨i1, hi1, hy0, _, _⟩ := info_parts info_order
        simp [zeroValue]
        rfl
      have HBz : Hid (Only (fun k => some k = bk) w (wr.setCells gg (off + i * 6) (Builtin.zeroCells #[.int .i64 0, .int .i64 0, .int .i64 0, .int .i64 0, .int .i64 0, .bool false] (m - i)).toList)) := Lib.hid (hb.out.trans ((only_setCells _ _ _ _).mono (S' := fun k => some k = bk) fun k hk => by rw [hk, hgg]) fun k hk => .inl hk)
      generalize wr.setCells gg _ _ = wz at hcl hMi HBz
      have HMz := Lib.hid hMi
      clear hMi hce
      go_upto_region 11 with (fail)
      go_wp2
      refine bodyPost_ret (by simp [results, Try.results44, asAddr, go_sem]; rfl) rfl ?_
      have hfin := HMz.out.front (r := i) (by omega) (by omega)
      rw [over_take (by rw [ocells_length, hFl.out]; omega)] at hfin
      have e1 : (ocells F).take (i * 6) = ocells (F.take i) := by
        have e2 : ocells F = ocells (F.take i) ++ ocells (F.drop i) := by rw [← ocells_append, List.take_append_drop]
        have e3 : (ocells (F.take i)).length = i * 6 := by rw [ocells_length, List.length_take, hFl.out]; omega
        rw [e2, List.take_append_of_le_length (by omega), List.take_of_length_le (by omega)]
      rw [e1] at hfin
      rw [hdn.out.1] at hfin
      exact ⟨some ⟨gg, off, none⟩, c, by rw [hdn.out.2], by rw [hdn.out.2]; exact hfin, HBz.out⟩
end Go.Proofs.Ytilbhnloelgpdaa
