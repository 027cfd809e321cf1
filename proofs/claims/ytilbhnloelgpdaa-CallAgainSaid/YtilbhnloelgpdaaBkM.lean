/- A book in memory; where an order stands. -/
import Derived.Test.YtilbhnloelgpdaaBk
namespace Go.Proofs.Ytilbhnloelgpdaa
open Go.RowKit
set_option linter.unusedVariables false
set_option linter.unusedSimpArgs false
structure AtB (w : World) (g : Nat) (gl : Option Nat) (b : Bk) : Prop where
  box : ∃ A c, Blk w g 76 #[.slice A b.l.length c, .int .i64 b.next] ∧ Own w 6 (.slice A b.l.length c) gl b.l.length (ocells b.l)
  apart : gl ≠ some g
  ok : b.Ok
theorem AtB.below {w w' : World} {g : Nat} {gl : Option Nat} {b : Bk} (h : AtB w g gl b) (hb : Below w.heap.size w w') : AtB w' g gl b := by
  obtain ⟨A, c, h1, h2⟩ := h.box
  exact ⟨⟨A, c, h1.below hb h1.lt, h2.below hb⟩, h.apart, h.ok⟩
theorem AtB.lt {w : World} {g : Nat} {gl : Option Nat} {b : Bk} (h : AtB w g gl b) : g < w.heap.size := by
  obtain ⟨A, c, h1, h2⟩ := h.box
  exact h1.lt
/-- Another world in which its two blocks are as they were. -/
theorem AtB.carry {w w' : World} {g : Nat} {gl : Option Nat} {b : Bk} (h : AtB w g gl b) (hs : w.heap.size ≤ w'.heap.size) (h1 : w'.heap[g]? = w.heap[g]?) (h2 : ∀ k, gl = some k → w'.heap[k]? = w.heap[k]?) : AtB w' g gl b := by
  obtain ⟨A, c, k1, k2⟩ := h.box
  refine ⟨⟨A, c, ?_, k2.carry hs h2⟩, h.apart, h.ok⟩
  unfold Blk at k1 ⊢
  rw [h1]; exact k1
theorem Own.mine {w : World} {sz n : Nat} {v : Value} {b : Option Nat} {xs : List Value} (h : Own w sz v b n xs) {w0 : World} (hb : ∀ k, b = some k → w0.heap.size ≤ k) : Mine w0 w sz v n xs := ⟨b, h, hb⟩
theorem Own.orow {w : World} {A : Option Addr} {c m : Nat} {b : Option Nat} {L : List Ord} (h : Own w 6 (.slice A m c) b m (ocells L)) (hm : L.length = m) : m ≤ c ∧ c ≤ maxLen ∧ ORow w A L := by
  obtain ⟨A', c', e, h1, h2, h3⟩ := h.row
  cases e
  refine ⟨h1, h2, ?_⟩
  unfold ORow
  rw [hm]; exact h3
set_option maxHeartbeats 2000000 in
theorem isid_calls (w : World) (o : Ord) (id : Int) (k : Nat) (hc : w.cell? ⟨k, 0, none⟩ = some (.int .i64 id)) : Calls Try.prog 63 #[oval o, .pointer (some ⟨k, 0, none⟩)] w (Told w (.bool (o.id == id))) := by
  obtain ⟨i, ow, p, a, pl, b⟩ := o
  unfold oval
  simp only
  have hb0 : Hid (Below w.heap.size w (w.alloc (.cells #[.int .i64 i, .int .i64 ow, .int .i64 p, .int .i64 a, .int .i64 pl, .bool b] 33))) := Lib.hid ((Below.refl _ _).alloc (Nat.le_refl _) _)
  have B0 := Lib.hid (Blk.new w 33 #[.int .i64 i, .int .i64 ow, .int .i64 p, .int .i64 a, .int .i64 pl, .bool b])
  have hk : k < w.heap.size := World.block_lt_of_cell? _ _ hc
  have HK : Hid (∀ wx, Below w.heap.size w wx → wx.cell? ⟨k, 0, none⟩ = some (.int .i64 id)) := Lib.hid fun wx hb => (below_cell hb hk).trans hc
  clear hc hk
  go_enter Try.func63, Try.ntmps63
  go_upto_region 1 with (fail)
  obtain ⟨g, hg⟩ : ∃ g, w.heap.size = g := ⟨_, rfl⟩
  have HG := Lib.hid hg
  rw [hg] at B0 ⊢
  clear hg
  generalize World.alloc w _ = wy at hb0 B0 ⊢
  have HX : Hid (wy.cell? ⟨g, 0, none⟩ = some (.int .i64 i) ∧ wy.cell? ⟨k, 0, none⟩ = some (.int .i64 id)) := Lib.hid ⟨B0.out.cell 0, HK.out _ hb0.out⟩
  obtain ⟨c0, c1⟩ := HX.out
  go_wp2
  refine bodyPost_ret (by simp [results, Try.results63, asAddr, go_sem]; rfl) rfl ?_
  exact ⟨rfl, hb0.out⟩
set_option maxHeartbeats 2000000 in
theorem indexid_calls (w : World) (A : Option Addr) (L : List Ord) (c : Nat) (h : ORow w A L) (hl : L.length ≤ 64) (id : Int) (k : Nat) (hc : w.cell? ⟨k, 0, none⟩ = some (.int .i64 id)) :
    Calls Try.prog 62 #[.slice A L.length c, .func (.func 63) #[] #[.pointer (some ⟨k, 0, none⟩)]] w (Told w (.int .i64 (Bk.at_ L id))) := by
  have H := Lib.hid h
  obtain ⟨m, hm⟩ : ∃ m, Hid (L.length = m) := ⟨_, Lib.hid rfl⟩
  have hk : k < w.heap.size := World.block_lt_of_cell? _ _ hc
  have HR : Hid (∀ wx, Below w.heap.size w wx → ∀ o, Calls Try.prog 63 #[oval o, .pointer (some ⟨k, 0, none⟩)] wx (Told wx (.bool (o.id == id)))) := Lib.hid fun wx hb o => isid_calls wx o id k ((below_cell hb hk).trans hc)
  obtain ⟨d, hd⟩ : ∃ d, Hid (Bk.ix L id = d) := ⟨_, Lib.hid rfl⟩
  have HI : Hid (∀ i, i < L.length → (∀ j, j < i → (L.getD j ord0).id ≠ id) → (L.getD i ord0).id = id → d = i) := Lib.hid fun i hi hn he => by
    rw [← hd.out]
    have h1 : Bk.ix L id < L.length := Bk.ix_mem.2 ⟨_, getD_mem hi, he⟩
    rcases Nat.lt_trichotomy (Bk.ix L id) i with h2 | h2 | h2
    · exact absurd (Bk.ix_id h1) (hn _ h2)
    · exact h2
    · exact absurd he (Bk.ix_not h2)
  have HA : Hid ((∀ j, j < L.length → (L.getD j ord0).id ≠ id) → ¬ d < L.length) := Lib.hid fun hn hlt => by
    rw [← hd.out] at hlt
    exact hn _ hlt (Bk.ix_id hlt)
  unfold Bk.at_
  rw [hd.out]
  rw [hm.out] at hl HI HA ⊢
  obtain ⟨R, hR⟩ : ∃ R, Hid ((if d < m then (d : Int) else -1) = R) := ⟨_, Lib.hid rfl⟩
  rw [hR.out]
  clear h hc hk
  go_enter Try.func62, Try.ntmps62
  go_wp2
  go_loopg [5, 8] (m + 1) (fun gk s5 s8 wr => ∃ i : Nat, gk = m + 1 - i ∧ i ≤ m ∧ s8 = .int .i64 (i : Int) ∧ Hid (∀ j, j < i → (L.getD j ord0).id ≠ id) ∧ Hid (Below w.heap.size w wr))
  case atStart => exact ⟨0, rfl, Nat.zero_le _, rfl, Lib.hid fun j hj => absurd hj (Nat.not_lt_zero _), Lib.hid (Below.refl _ _)⟩
  case round =>
    obtain ⟨i, rfl, hi, rfl, hal, hb⟩ := hrel
    have i0 : (0 : Int) ≤ (i : Int) := by omega
    by_cases hlt : i < m
    · have hltI : (i : Int) < (m : Int) := by omega
      have hlL : Hid (i < L.length) := Lib.hid (by rw [hm.out]; exact hlt)
      obtain ⟨b, o, rfl⟩ : ∃ b o, A = some ⟨b, o, none⟩ := by
        obtain ⟨b, o, e, _⟩ := H.out.cells hlL.out
        exact ⟨b, o, e⟩
      have HC := Lib.hid (fun wx hh => ORow.six H.out hlL.out (w' := wx) hh)
      have HRr := Lib.hid (fun wx hh => HR.out wx hh (L.getD i ord0))
      have HSt := Lib.hid (HI.out i hlt hal.out)
      have HNx : Hid ((L.getD i ord0).id ≠ id → ∀ j, j < i + 1 → (L.getD j ord0).id ≠ id) := Lib.hid fun hr j hj => by
        rcases Nat.lt_or_eq_of_le (Nat.le_of_lt_succ hj) with h | h
        · exact hal.out j h
        · rw [h]; exact hr
      have HM := Lib.hid (show m + 1 - (i + 1) < m + 1 - i by omega)
      generalize L.getD i ord0 = q at HC HRr HSt HNx
      obtain ⟨qi, qo, qp, qa, qpl, qb⟩ := q
      unfold oval at HRr
      simp only at HC HRr HSt HNx
      obtain ⟨c0, c1, c2, c3, c4, c5⟩ := HC.out wr hb.out
      by_cases he : qi = id
      · have e1 := HSt.out he
        subst e1
        have hR' := hR.out
        rw [if_pos hlt] at hR'
        subst hR'
        have HRe : Hid (∀ wx, Below w.heap.size w wx → Calls Try.prog 63 #[.agg #[.int .i64 qi, .int .i64 qo, .int .i64 qp, .int .i64 qa, .int .i64 qpl, .bool qb], .pointer (some ⟨k, 0, none⟩)] wx (Told wx (.bool true))) := Lib.hid fun wx hh => by
          have := HRr.out wx hh
          rwa [show (qi == id) = true by simpa using he] at this
        clear HRr HSt HNx he
        go_wp2_with (go_at_call 63; (with_reducible refine (HRe.out _ hb.out).mono ?_); rintro e w1 ⟨rfl, hh⟩; have hb1 := Lib.hid (below_next hb.out hh); clear hh)
        refine bodyPost_ret (by simp [results, Try.results62, asAddr, go_sem]; rfl) rfl ?_
        exact ⟨rfl, hb1.out⟩
      · have HN := Lib.hid (HNx.out he)
        have HRe : Hid (∀ wx, Below w.heap.size w wx → Calls Try.prog 63 #[.agg #[.int .i64 qi, .int .i64 qo, .int .i64 qp, .int .i64 qa, .int .i64 qpl, .bool qb], .pointer (some ⟨k, 0, none⟩)] wx (Told wx (.bool false))) := Lib.hid fun wx hh => by
          have := HRr.out wx hh
          rwa [show (qi == id) = false by simpa using he] at this
        clear HRr HSt HNx he
        go_wp2_with (go_at_call 63; (with_reducible refine (HRe.out _ hb.out).mono ?_); rintro e w1 ⟨rfl, hh⟩; have hb1 := Lib.hid (below_next hb.out hh); clear hh)
        go_roundg (m + 1 - (i + 1))
        case measure => exact HM.out
        case rel => exact ⟨i + 1, rfl, by omega, by go_num, HN, hb1⟩
    · obtain rfl : m = i := by omega
      have e1 := HA.out hal.out
      have hR' := hR.out
      rw [if_neg e1] at hR'
      subst hR'
      clear e1
      go_wp2
      refine bodyPost_ret (by simp [results, Try.results62, asAddr, go_sem]; rfl) rfl ?_
      exact ⟨rfl, hb.out⟩
set_option maxHeartbeats 2000000 in
theorem at_raw (w : World) (g : Nat) (A : Option Addr) (L : List Ord) (c : Nat) (nx : Int) (hB : Blk w g 76 #[.slice A L.length c, .int .i64 nx]) (hR : ORow w A L) (hfew : L.length ≤ 64) (id : Int) : Calls Try.prog 43 #[.pointer (some ⟨g, 0, none⟩), .int .i64 id] w (Told w (.int .i64 (Bk.at_ L id))) := by
  have HB := Lib.hid hB
  have HR := Lib.hid hR
  have hmf : ∀ (fn : Fn) (first cap : Array Value) (w : World), (Instr.makeFunc fn first cap).run Try.prog w = .ok (.func fn first cap) w := fun _ _ _ _ => rfl
  have hb0 : Hid (Below w.heap.size w (w.alloc (.cells #[.int .i64 id] 3))) := Lib.hid ((Below.refl _ _).alloc (Nat.le_refl _) _)
  have B0 := Lib.hid (Blk.new w 3 #[.int .i64 id])
  have HI : Hid (∀ wx k, Below w.heap.size w wx → wx.cell? ⟨k, 0, none⟩ = some (.int .i64 id) → Calls Try.prog 62 #[.slice A L.length c, .func (.func 63) #[] #[.pointer (some ⟨k, 0, none⟩)]] wx (Told wx (.int .i64 (Bk.at_ L id)))) := Lib.hid fun wx k hb hc => indexid_calls wx A L c (HR.out.below hb) hfew id k hc
  generalize Bk.at_ L id = R at HI ⊢
  generalize L.length = n at HB HI
  clear hB hR hfew HR
  go_enter Try.func43, Try.ntmps43
  go_upto_region 1 with (fail)
  obtain ⟨k, hk⟩ : ∃ k, w.heap.size = k := ⟨_, rfl⟩
  have HK := Lib.hid hk
  rw [hk] at B0 ⊢
  clear hk
  generalize World.alloc w _ = wy at hb0 B0 ⊢
  have HIk := Lib.hid (HI.out wy k hb0.out (B0.out.cell 0))
  have c0 := (HB.out.below hb0.out HB.out.lt).cell 0
  simp at c0
  go_wp2_with (go_at_call 62; (with_reducible refine HIk.out.mono ?_); rintro e w1 ⟨rfl, hh⟩; have hb1 := Lib.hid (below_next hb0.out hh); clear hh)
  refine bodyPost_ret (by simp [results, Try.results43, asAddr, go_sem]; rfl) rfl ?_
  exact ⟨rfl, hb1.out⟩
theorem at_calls (w : World) (g : Nat) (gl : Option Nat) (b : Bk) (h : AtB w g gl b) (id : Int) : Calls Try.prog 43 #[.pointer (some ⟨g, 0, none⟩), .int .i64 id] w (Told w (.int .i64 (Bk.at_ b.l id))) := by
  obtain ⟨A, c, hB, hO⟩ := h.box
  exact at_raw w g A b.l c b.next hB (hO.orow rfl).2.2 h.ok.few id
end Go.Proofs.Ytilbhnloelgpdaa
