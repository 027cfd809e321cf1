/- Two auctions at once, and some that only stand: what the walk of ClockApart threads through. -/
import Derived.Test.YtccmafmeblojpaaBytes
import Derived.Test.YtccmafmeblojpaaClockRisesW
namespace Go.Proofs.Ytccmafmeblojpaa
open Go.RowKit
theorem Aw.turned {w0 w w' : World} {g gl h hl : Nat} {b : Auc} (hb : Aw w0 w h hl b) (ho : Only (feet2 g gl) w w') (hall : Below w0.heap.size w0 w') (n1 : h ≠ g) (n2 : h ≠ gl) (n3 : hl ≠ g) (n4 : hl ≠ gl) : Aw w0 w' h hl b := by
  have e1 := ho.block h hb.at_.head.lt fun hk => hk.elim n1 n2
  have e2 := ho.block hl hb.at_.list.lt fun hk => hk.elim n3 n4
  refine ⟨⟨?_, ?_, hb.at_.ne, hb.at_.ok⟩, hb.fair, hb.head, hb.list, hall⟩
  · unfold Blk; rw [e1]; exact hb.at_.head
  · unfold Blk; rw [e2]; exact hb.at_.list
structure DW (w0 w : World) (g gl : Nat) (a : Auc) (h hl : Nat) (b : Auc) : Prop where
  x : Aw w0 w g gl a
  y : Aw w0 w h hl b
  n1 : h ≠ g
  n2 : h ≠ gl
  n3 : hl ≠ g
  n4 : hl ≠ gl
section
variable {w0 w w' : World} {g gl h hl : Nat} {a b : Auc}
theorem DW.keep (H : DW w0 w g gl a h hl b) (hb : Below w.heap.size w w') : DW w0 w' g gl a h hl b := ⟨H.x.below hb, H.y.below hb, H.n1, H.n2, H.n3, H.n4⟩
theorem DW.bidx (H : DW w0 w g gl a h hl b) (who n : Int) : Calls Try.prog 19 #[.pointer (some ⟨g, 0, none⟩), .int .i64 who, .int .i64 n] w fun e w' => e = .returned (.int .i64 (a.bid who n).2) ∧ DW w0 w' g gl (a.bid who n).1 h hl b :=
  (bid_calls w g gl a H.x.at_ who n).mono fun _ _ ⟨h1, h2, h3⟩ => ⟨h1, ⟨h2, H.x.fair.bid who n, H.x.head, H.x.list, H.x.feet h3⟩, H.y.turned h3 (H.x.feet h3) H.n1 H.n2 H.n3 H.n4, H.n1, H.n2, H.n3, H.n4⟩
theorem DW.nextx (H : DW w0 w g gl a h hl b) : Calls Try.prog 23 #[.pointer (some ⟨g, 0, none⟩)] w fun e w' => e = .returned (.tuple #[.bool a.next.2.1, .int .i64 a.next.2.2]) ∧ DW w0 w' g gl a.next.1 h hl b :=
  (next_calls w g gl a H.x.at_).mono fun _ _ ⟨h1, h2, h3⟩ => ⟨h1, ⟨h2, H.x.fair.next H.x.at_.ok, H.x.head, H.x.list, H.x.feet h3⟩, H.y.turned h3 (H.x.feet h3) H.n1 H.n2 H.n3 H.n4, H.n1, H.n2, H.n3, H.n4⟩
theorem DW.bidy (H : DW w0 w g gl a h hl b) (who n : Int) : Calls Try.prog 19 #[.pointer (some ⟨h, 0, none⟩), .int .i64 who, .int .i64 n] w fun e w' => e = .returned (.int .i64 (b.bid who n).2) ∧ DW w0 w' g gl a h hl (b.bid who n).1 :=
  (bid_calls w h hl b H.y.at_ who n).mono fun _ _ ⟨h1, h2, h3⟩ => ⟨h1, H.x.turned h3 (H.y.feet h3) H.n1.symm H.n3.symm H.n2.symm H.n4.symm, ⟨h2, H.y.fair.bid who n, H.y.head, H.y.list, H.y.feet h3⟩, H.n1, H.n2, H.n3, H.n4⟩
theorem DW.nexty (H : DW w0 w g gl a h hl b) : Calls Try.prog 23 #[.pointer (some ⟨h, 0, none⟩)] w fun e w' => e = .returned (.tuple #[.bool b.next.2.1, .int .i64 b.next.2.2]) ∧ DW w0 w' g gl a h hl b.next.1 :=
  (next_calls w h hl b H.y.at_).mono fun _ _ ⟨h1, h2, h3⟩ => ⟨h1, H.x.turned h3 (H.y.feet h3) H.n1.symm H.n3.symm H.n2.symm H.n4.symm, ⟨h2, H.y.fair.next H.y.at_.ok, H.y.head, H.y.list, H.y.feet h3⟩, H.n1, H.n2, H.n3, H.n4⟩
theorem Auc.sale_short (a : Auc) : a.sale.2.1.length ≤ a.l.length := by
  unfold Auc.sale
  split
  · exact Nat.zero_le _
  split
  · simp
  split
  · simp [Auc.nowl]
  · simp [Auc.nowl]; omega
/-- Beside them a slice that may be spoilt. -/
structure DS (w0 w : World) (g gl : Nat) (a : Auc) (h hl : Nat) (b : Auc) (A : Option Addr) (m : Nat) : Prop where
  d : DW w0 w g gl a h hl b
  s : m = 0 ∨ ∃ gs l, A = some ⟨gs, 0, none⟩ ∧ l.length = m ∧ Blk w gs 3 (icells l).toArray ∧ w0.heap.size ≤ gs ∧ g ≠ gs ∧ gl ≠ gs ∧ h ≠ gs ∧ hl ≠ gs
theorem DW.salex (H : DW w0 w g gl a h hl b) : Calls Try.prog 27 #[.pointer (some ⟨g, 0, none⟩)] w fun e w' => ∃ A m, m ≤ 16 ∧ e = .returned (.tuple #[.int .i64 a.sale.1, .slice A m m, .int .i64 a.sale.2.2]) ∧ DS w0 w' g gl a h hl b A m :=
  (sale_calls w g gl a H.x.at_ H.x.fair).mono fun _ _ ⟨v, h1, h2, h3⟩ => by
    rcases h2 with ⟨_, rfl⟩ | ⟨gs, rfl, h4, h5⟩
    · exact ⟨none, 0, by omega, h1, H.keep h3, .inl rfl⟩
    · have l1 := H.x.at_.head.lt
      have l2 := H.x.at_.list.lt
      have l3 := H.y.at_.head.lt
      have l4 := H.y.at_.list.lt
      exact ⟨_, _, Nat.le_trans a.sale_short H.x.at_.ok.len.2, h1, H.keep h3, .inr ⟨gs, _, rfl, rfl, h5, Nat.le_trans H.x.all.size h4, by omega, by omega, by omega, by omega⟩⟩
theorem Aw.far (hx : Aw w0 w g gl a) {gs : Nat} (h0 : w0.heap.size ≤ gs) (n1 : g ≠ gs) (n2 : gl ≠ gs) (j : Nat) (v : Value) : Aw w0 (w.setCell ⟨gs, j, none⟩ v) g gl a :=
  ⟨⟨hx.at_.head.far n1 _, hx.at_.list.far n2 _, hx.at_.ne, hx.at_.ok⟩, hx.fair, hx.head, hx.list, hx.all.setCell (p := ⟨gs, j, none⟩) h0 _⟩
theorem DS.put {A : Option Addr} {m : Nat} (H : DS w0 w g gl a h hl b A m) {j : Nat} (hj : j < m) :
    ∃ gs, A = some ⟨gs, 0, none⟩ ∧ (∃ x, w.cell? ⟨gs, j, none⟩ = some x) ∧ w.frozen? ⟨gs, j, none⟩ = false ∧ ∀ n : Int, DS w0 (w.setCell ⟨gs, j, none⟩ (.int .i64 n)) g gl a h hl b A m := by
  rcases H.s with h0 | ⟨gs, l, rfl, h1, h2, h3, h4, h5, h6, h7⟩
  · omega
  · have hc := h2.cell j
    rw [List.getElem?_toArray, icells_get _ (by rw [h1]; exact hj)] at hc
    refine ⟨gs, rfl, ⟨_, hc⟩, h2.frozen j, fun n => ⟨⟨H.d.x.far h3 h4 h5 j _, H.d.y.far h3 h6 h7 j _, H.d.n1, H.d.n2, H.d.n3, H.d.n4⟩, .inr ⟨gs, l.set j n, rfl, by rw [List.length_set]; exact h1, ?_, h3, h4, h5, h6, h7⟩⟩⟩
    have := h2.set_ j (.int .i64 n)
    rw [List.setIfInBounds_toArray, icells_set] at this
    exact this
end
/-- Auctions that stand. -/
structure Aws (w0 w : World) (L : List (Nat × Nat × Auc)) : Prop where
  all : Below w0.heap.size w0 w
  each : ∀ p ∈ L, Aw w0 w p.1 p.2.1 p.2.2
section
variable {w0 w w' : World} {g gl h hl : Nat} {a b : Auc} {L : List (Nat × Nat × Auc)}
theorem Aws.keep (H : Aws w0 w L) (hb : Below w.heap.size w w') : Aws w0 w' L := ⟨below_next H.all hb, fun p hp => (H.each p hp).below hb⟩
theorem DW.aws (H : DW w0 w g gl a h hl b) : Aws w0 w [(g, gl, a), (h, hl, b)] := ⟨H.x.all, fun p hp => by
  simp only [List.mem_cons, List.not_mem_nil, or_false] at hp
  rcases hp with rfl | rfl
  · exact H.x
  · exact H.y⟩
theorem Aws.begun (H : Aws w0 w L) (s : Int) (A : Option Addr) (n c : Nat) (Z : Nat → Int) (hZ : Script w0 A n Z) (hm : n ≤ 100) :
    Calls Try.prog 25 #[.int .i64 s, .slice A n c] w fun e w' => ∃ g gl, e = .returned (.pointer (some ⟨g, 0, none⟩)) ∧ Aws w0 w' ((g, gl, (Auc.four s).acts Z n) :: L) :=
  (begun_calls w s A n c Z (Row.below hZ H.all)).mono fun _ _ ⟨g, gl, h1, h2⟩ => ⟨g, gl, h1, below_next H.all h2.all, fun p hp => by
    rcases List.mem_cons.1 hp with rfl | hp
    · rw [Nat.min_eq_left hm] at h2
      exact ⟨h2.at_, h2.fair, Nat.le_trans H.all.size h2.head, Nat.le_trans H.all.size h2.list, below_next H.all h2.all⟩
    · exact (H.each p hp).below h2.all⟩
theorem Aws.sale (H : Aws w0 w L) (g gl : Nat) (a : Auc) (hm : (g, gl, a) ∈ L) (ls : List Int) (hl : a.sale.2.1 = ls) (n : Nat) (hn : ls.length = n) : Calls Try.prog 27 #[.pointer (some ⟨g, 0, none⟩)] w fun e w' => ∃ A, e = .returned (.tuple #[.int .i64 a.sale.1, .slice A n n, .int .i64 a.sale.2.2]) ∧ IRow w' A ls ∧ Below w.heap.size w w' :=
  (sale_calls w g gl a (H.each _ hm).at_ (H.each _ hm).fair).mono fun _ _ ⟨v, h1, h2, h3⟩ => by
    rw [hl] at h2
    rcases h2 with ⟨h4, rfl⟩ | ⟨gs, rfl, _, h5⟩
    · rw [h4] at hn
      rw [h4]
      have : n = 0 := hn.symm
      subst this
      exact ⟨none, h1, .inl rfl, h3⟩
    · rw [hn] at h1
      refine ⟨_, h1, ?_, h3⟩
      have := h5.toRow
      rw [List.size_toArray] at this
      unfold IRow
      refine Row.of_cells fun j hj => ?_
      have hc := h5.cell j
      rw [List.getElem?_toArray, icells_get _ hj] at hc
      rw [← hc]
      simp [Addr.add_lit]
theorem Aws.bytes (H : Aws w0 w L) (g gl : Nat) (a : Auc) (hm : (g, gl, a) ∈ L) : Calls Try.prog 28 #[.pointer (some ⟨g, 0, none⟩)] w fun e w' => e = .returned (.string a.bytes) ∧ Below w.heap.size w w' :=
  bytes_calls w g gl a (H.each _ hm).at_
end
theorem begin1 (w : World) (s : Int) : Calls Try.prog 25 #[.int .i64 s, .slice none 0 0] w fun e w' => ∃ g gl, e = .returned (.pointer (some ⟨g, 0, none⟩)) ∧ Aw w w' g gl (Auc.four s) := begun_calls w s none 0 0 (fun _ => 0) (.inl rfl)
theorem begin2 {w0 w : World} {g gl : Nat} {a : Auc} (H : Aw w0 w g gl a) (s : Int) : Calls Try.prog 25 #[.int .i64 s, .slice none 0 0] w fun e w' => ∃ h hl, e = .returned (.pointer (some ⟨h, 0, none⟩)) ∧ DW w0 w' g gl a h hl (Auc.four s) :=
  (begin1 w s).mono fun _ _ ⟨h, hl, h1, h2⟩ => ⟨h, hl, h1, H.below h2.all,
    ⟨h2.at_, h2.fair, Nat.le_trans H.all.size h2.head, Nat.le_trans H.all.size h2.list, below_next H.all h2.all⟩, by have := H.at_.head.lt; have := h2.head; omega, by have := H.at_.list.lt; have := h2.head; omega, by have := H.at_.head.lt; have := h2.list; omega, by have := H.at_.list.lt; have := h2.list; omega⟩
end Go.Proofs.Ytccmafmeblojpaa
