/- Orders in a row of one's own that are swapped; swapRangeCmpFunc. -/
import Derived.Test.YtilbhnloelgpdaaSAhead
import Derived.BigRegion
namespace Go.Proofs.Ytilbhnloelgpdaa
open Go.RowKit
set_option linter.unusedVariables false
set_option linter.unusedSimpArgs false
/-- The orders F in a row made behind w0. -/
structure Sw (w0 w : World) (A : Option Addr) (m c : Nat) (F : List Ord) : Prop where
  row : Mine w0 w 6 (.slice A m c) m (ocells F)
  len : F.length = m
  all : Below w0.heap.size w0 w
theorem Sw.below {w0 w w' : World} {A : Option Addr} {m c : Nat} {F : List Ord} (h : Sw w0 w A m c F) (hb : Below w.heap.size w w') : Sw w0 w' A m c F := ⟨h.row.below hb, h.len, h.all.trans (hb.mono h.all.size)⟩
theorem Sw.lies {w0 w : World} {A : Option Addr} {m c : Nat} {F : List Ord} (h : Sw w0 w A m c F) (hm : 0 < m) : ∃ b o, A = some ⟨b, o, none⟩ := by
  obtain ⟨b, o, e, _⟩ := (h.row.orow h.len).2.some (by rw [h.len]; exact hm)
  exact ⟨b, o, e⟩
theorem Sw.six {w0 w : World} {b o m c : Nat} {F : List Ord} (h : Sw w0 w (some ⟨b, o, none⟩) m c F) {x : Nat} (hx : x < m) :
    w.cell? ⟨b, o + x * 6, none⟩ = some (.int .i64 (F.getD x ord0).id) ∧ w.cell? ⟨b, o + x * 6 + 1, none⟩ = some (.int .i64 (F.getD x ord0).owner) ∧ w.cell? ⟨b, o + x * 6 + 2, none⟩ = some (.int .i64 (F.getD x ord0).price) ∧
    w.cell? ⟨b, o + x * 6 + 3, none⟩ = some (.int .i64 (F.getD x ord0).amount) ∧ w.cell? ⟨b, o + x * 6 + 4, none⟩ = some (.int .i64 (F.getD x ord0).place) ∧ w.cell? ⟨b, o + x * 6 + 5, none⟩ = some (.bool (F.getD x ord0).buys) :=
  ORow.six (h.row.orow h.len).2 (by rw [h.len]; exact hx) (Below.refl _ _)
theorem Sw.put {w0 w : World} {b o m c : Nat} {F : List Ord} (h : Sw w0 w (some ⟨b, o, none⟩) m c F) {x : Nat} (hx : x < m) (q : Ord) :
    w.there b (o + x * 6) 6 ∧ Sw w0 (w.setCells b (o + x * 6) (ocell q)) (some ⟨b, o, none⟩) m c (F.set x q) := by
  obtain ⟨g, off, e, hg, hce, hM⟩ := h.row.over (p := x * 6) (vs := ocell q) (by rw [ocell_length]; omega) (by rw [ocell_length]; omega)
  cases e
  refine ⟨fun j hj => ?_, ?_, by rw [List.length_set]; exact h.len, ?_⟩
  · have := hce j (by rw [ocell_length]; exact hj)
    exact this
  · rw [over_ocells F (by rw [h.len]; exact hx)] at hM
    exact hM
  · exact (Only.of_below (S := fun k => k = b) h.all).trans (only_setCells _ _ _ _) (fun k hk => .inl hk) |>.below (Nat.le_refl _) fun k hk => hk ▸ hg
theorem Sw.swap {w0 w : World} {b o m c : Nat} {F : List Ord} (h : Sw w0 w (some ⟨b, o, none⟩) m c F) {x y : Nat} (hx : x < m) (hy : y < m) (p q : Ord) :
    Sw w0 ((w.setCells b (o + x * 6) (ocell p)).setCells b (o + y * 6) (ocell q)) (some ⟨b, o, none⟩) m c ((F.set x p).set y q) := ((h.put hx p).2.put hy q).2
/-- F with what stands from x on and what stands from y on changed, i of each. -/
def swaps (F : List Ord) (x y : Nat) : Nat → List Ord
  | 0 => F
  | i + 1 => ((swaps F x y i).set (x + i) ((swaps F x y i).getD (y + i) ord0)).set (y + i) ((swaps F x y i).getD (x + i) ord0)
set_option maxHeartbeats 4000000 in
theorem swapr_calls (w0 w : World) (A : Option Addr) (m c : Nat) (F : List Ord) (h : Sw w0 w A m c F) (hm : m ≤ 64) (x0 y0 n : Nat) (hxy : x0 + n ≤ y0) (hyn : y0 + n ≤ m) (fv : Value) :
    Calls Try.prog 75 #[.slice A m c, .int .i64 (x0 : Int), .int .i64 (y0 : Int), .int .i64 (n : Int), fv] w fun e w' => e = .returned (.tuple #[]) ∧ Sw w0 w' A m c (swaps F x0 y0 n) := by
  have H := Lib.hid h
  clear h
  go_enter Try.func75, Try.ntmps75
  go_upto_region 1 with (fail)
  go_loopg [10] (n + 1) (fun gk s10 wr => ∃ i : Nat, gk = n + 1 - i ∧ i ≤ n ∧ s10 = .int .i64 (i : Int) ∧ Hid (Sw w0 wr A m c (swaps F x0 y0 i)))
  case atStart => exact ⟨0, rfl, Nat.zero_le _, rfl, H⟩
  case round =>
    obtain ⟨i, rfl, hi, rfl, HW⟩ := hrel
    by_cases hlt : i < n
    · have hltI : (i : Int) < (n : Int) := by omega
      obtain ⟨b, o, rfl⟩ := HW.out.lies (by omega)
      obtain ⟨x, hxe⟩ : ∃ x, Hid (x0 + i = x) := ⟨_, Lib.hid rfl⟩
      obtain ⟨y, hye⟩ : ∃ y, Hid (y0 + i = y) := ⟨_, Lib.hid rfl⟩
      have hx : x < m := by have := hxe.out; omega
      have hy : y < m := by have := hye.out; omega
      have hne : x < y := by have := hxe.out; have := hye.out; omega
      have qx : IntKind.i64.wrap ((x0 : Int) + (i : Int)) = (x : Int) := by rw [IntKind.wrap_i64]; have := hxe.out; omega
      have qy : IntKind.i64.wrap ((y0 : Int) + (i : Int)) = (y : Int) := by rw [IntKind.wrap_i64]; have := hye.out; omega
      have x1 : (0 : Int) ≤ (x : Int) := by omega
      have x2 : (x : Int) < (m : Int) := by omega
      have y1 : (0 : Int) ≤ (y : Int) := by omega
      have y2 : (y : Int) < (m : Int) := by omega
      have HN : Hid (swaps F x0 y0 (i + 1) = ((swaps F x0 y0 i).set x ((swaps F x0 y0 i).getD y ord0)).set y ((swaps F x0 y0 i).getD x ord0)) := Lib.hid (by rw [← hxe.out, ← hye.out]; rfl)
      generalize swaps F x0 y0 i = G at HW HN
      have HM := Lib.hid (show n + 1 - (i + 1) < n + 1 - i by omega)
      have HZ := Lib.hid fun p q => HW.out.swap hx hy p q
      obtain ⟨c0, c1, c2, c3, c4, c5⟩ := HW.out.six hx
      obtain ⟨d0, d1, d2, d3, d4, d5⟩ := HW.out.six hy
      obtain ⟨t1, _⟩ := HW.out.put hx ord0
      obtain ⟨t2, _⟩ := HW.out.put hy ord0
      obtain ⟨f0, f1, f2, f3, f4, f5⟩ : (wr.frozen? ⟨b, o + x * 6, none⟩ = false ∧ wr.frozen? ⟨b, o + x * 6 + 1, none⟩ = false ∧ wr.frozen? ⟨b, o + x * 6 + 2, none⟩ = false ∧ wr.frozen? ⟨b, o + x * 6 + 3, none⟩ = false ∧ wr.frozen? ⟨b, o + x * 6 + 4, none⟩ = false ∧ wr.frozen? ⟨b, o + x * 6 + 5, none⟩ = false) := ⟨(t1 0 (by decide)).2, (t1 1 (by decide)).2, (t1 2 (by decide)).2, (t1 3 (by decide)).2, (t1 4 (by decide)).2, (t1 5 (by decide)).2⟩
      obtain ⟨g0, g1, g2, g3, g4, g5⟩ : (wr.frozen? ⟨b, o + y * 6, none⟩ = false ∧ wr.frozen? ⟨b, o + y * 6 + 1, none⟩ = false ∧ wr.frozen? ⟨b, o + y * 6 + 2, none⟩ = false ∧ wr.frozen? ⟨b, o + y * 6 + 3, none⟩ = false ∧ wr.frozen? ⟨b, o + y * 6 + 4, none⟩ = false ∧ wr.frozen? ⟨b, o + y * 6 + 5, none⟩ = false) := ⟨(t2 0 (by decide)).2, (t2 1 (by decide)).2, (t2 2 (by decide)).2, (t2 3 (by decide)).2, (t2 4 (by decide)).2, (t2 5 (by decide)).2⟩
      clear t1 t2
      generalize G.getD x ord0 = p at c0 c1 c2 c3 c4 c5 HN
      generalize G.getD y ord0 = q at d0 d1 d2 d3 d4 d5 HN
      obtain ⟨pi, po, pp, pa, ppl, pb⟩ := p
      obtain ⟨qi, qo, qp, qa, qpl, qb⟩ := q
      simp only at c0 c1 c2 c3 c4 c5 d0 d1 d2 d3 d4 d5
      go_upto_region 3 with (fail)
      go_region
      go_wp2
      go_roundg (n + 1 - (i + 1))
      case measure => exact HM.out
      case rel => exact ⟨i + 1, rfl, by omega, by go_num, Lib.hid (by rw [HN.out]; exact (HZ.out ⟨qi, qo, qp, qa, qpl, qb⟩ ⟨pi, po, pp, pa, ppl, pb⟩).below (Below.refl _ _).drew)⟩
    · obtain rfl : n = i := by omega
      go_wp2
      go_end0
      exact ⟨rfl, HW.out⟩
end Go.Proofs.Ytilbhnloelgpdaa
