/- The walk of Sale of a clock auction. -/
import Derived.Test.YtccmafmeblojpaaShares
namespace Go.Proofs.Ytccmafmeblojpaa
open Go.RowKit
namespace Sh
theorem shares_length (n : Int) (gaps : List Int) : (shares n gaps).length = gaps.length := by unfold shares; rw [bumps_length, firsts_length]
theorem bumps_el (gaps : List Int) (left : Int) (out : List Int) (i : Nat) : ∀ j, out.getD j 0 ≤ (bumps gaps left out i).2.getD j 0 ∧ (bumps gaps left out i).2.getD j 0 ≤ out.getD j 0 + i := by
  induction i with
  | zero => intro j; simp [bumps]
  | succ i ih =>
    intro j
    have h := ih j
    have h2 := ih i
    rw [bumps]
    push_cast
    split
    · simp only
      by_cases e : i = j
      · subst e
        rw [List.getD_eq_getElem?_getD (l := List.set _ _ _)]
        by_cases hl : i < (bumps gaps left out i).2.length
        · rw [List.getElem?_set_self hl]; simp only [Option.getD_some]; omega
        · rw [List.getElem?_eq_none (by rw [List.length_set]; omega)]
          rw [List.getD_eq_getElem?_getD (l := (bumps gaps left out i).2), List.getElem?_eq_none (by omega)] at h
          simp only [Option.getD_none] at h ⊢
          omega
      · rw [List.getD_eq_getElem?_getD (l := List.set _ _ _), List.getElem?_set_ne e, ← List.getD_eq_getElem?_getD]
        omega
    · omega
theorem shares_el {n : Int} {gaps : List Int} (hn : 0 ≤ n ∧ n ≤ 1048576) (h : ∀ g ∈ gaps, 0 ≤ g ∧ g ≤ 1048576) (hl : gaps.length ≤ 16) (j : Nat) : 0 ≤ (shares n gaps).getD j 0 ∧ (shares n gaps).getD j 0 ≤ 2097152 := by
  have h1 := bumps_el gaps (n - (firsts n gaps).sum) (firsts n gaps) gaps.length j
  have h2 : 0 ≤ (firsts n gaps).getD j 0 ∧ (firsts n gaps).getD j 0 ≤ 1048576 := by
    rw [List.getD_eq_getElem?_getD]
    cases hq : (firsts n gaps)[j]? with
    | none => simp
    | some x =>
      have hmem := List.mem_of_getElem? hq
      unfold firsts at hmem
      obtain ⟨y, hy, rfl⟩ := List.mem_map.1 hmem
      have := first_bound hn (h y hy).1 (le_sum h hy)
      simp only [Option.getD_some]
      omega
  unfold shares
  omega
end Sh
namespace Auc
def wases (l : List (Int × Int)) : Int := (l.map (·.1)).sum
/-- What each auction keeps that came about by calls. -/
structure Fair (a : Auc) : Prop where
  first : a.round = 1 → ∀ p ∈ a.l, p.1 = 0
  fall : 1 < a.round → ∀ p ∈ a.l, p.2 ≤ p.1
  more : 1 < a.round → a.supply < wases a.l
  sold : a.state = 1 → a.demand ≤ a.supply
def gaps (a : Auc) : List Int := a.l.map fun p => p.1 - p.2
def nowl (a : Auc) : List Int := a.l.map (·.2)
def sale (a : Auc) : Int × List Int × Int :=
  if a.state = 0 then (0, [], 3)
  else if a.state = 2 then (0, List.replicate a.l.length 0, 0)
  else if a.round = 1 ∨ a.supply - a.demand = 0 then (a.price, a.nowl, 0)
  else (a.price - a.step, List.zipWith (· + ·) a.nowl (Sh.shares (a.supply - a.demand) a.gaps), 0)
theorem nowl_at (a : Auc) {i : Nat} (h : i < a.l.length) : a.nowl.getD i 0 = (a.l.getD i (0, 0)).2 := by
  unfold nowl
  rw [List.getD_eq_getElem?_getD, List.getElem?_map, List.getElem?_eq_getElem h, List.getD_eq_getElem?_getD, List.getElem?_eq_getElem h]; rfl
theorem gaps_at (a : Auc) {i : Nat} (h : i < a.l.length) : a.gaps.getD i 0 = (a.l.getD i (0, 0)).1 - (a.l.getD i (0, 0)).2 := by
  unfold gaps
  rw [List.getD_eq_getElem?_getD, List.getElem?_map, List.getElem?_eq_getElem h, List.getD_eq_getElem?_getD, List.getElem?_eq_getElem h]; rfl
theorem gaps_sum (l : List (Int × Int)) : (l.map fun p => p.1 - p.2).sum = wases l - nows l := by
  induction l with
  | nil => rfl
  | cons p l ih =>
    unfold wases nows at *
    simp only [List.map_cons, List.sum_cons, ih]
    omega
end Auc
/-- Numbers laid into a row of noughts. -/
def lay (L : List Int) (i : Nat) : List Int := L.take i ++ List.replicate (L.length - i) 0
theorem lay_zero (L : List Int) : lay L 0 = List.replicate L.length 0 := by simp [lay]
theorem lay_all (L : List Int) : lay L L.length = L := by simp [lay]
theorem lay_length (L : List Int) {i : Nat} (h : i ≤ L.length) : (lay L i).length = L.length := by
  unfold lay; rw [List.length_append, List.length_take, List.length_replicate]; omega
theorem lay_set (L : List Int) {i : Nat} (h : i < L.length) : (lay L i).set i (L.getD i 0) = lay L (i + 1) := by
  unfold lay
  rw [List.set_append_right _ _ (by rw [List.length_take]; omega), List.length_take, Nat.min_eq_left (by omega), Nat.sub_self]
  obtain ⟨m, hm⟩ : ∃ m, L.length - i = m + 1 := ⟨L.length - i - 1, by omega⟩
  rw [hm, List.replicate_succ, List.set_cons_zero, show L.length - (i + 1) = m from by omega, List.take_add_one, List.append_assoc]
  congr 1
  rw [List.getElem?_eq_getElem h, List.getD_eq_getElem?_getD, List.getElem?_eq_getElem h]
  rfl
theorem lay_at (L : List Int) {i : Nat} (h : i < L.length) : ∃ x, (icells (lay L i))[i]? = some x := by
  refine ⟨_, icells_get _ (by rw [lay_length _ (Nat.le_of_lt h)]; exact h)⟩
theorem Blk.lay {w : World} {g : Nat} {L : List Int} {i : Nat} (h : Blk w g 3 (icells (lay L i)).toArray) (hi : i < L.length) {v : Int} (hv : v = L.getD i 0) : Blk (w.setCell ⟨g, i, none⟩ (.int .i64 v)) g 3 (icells (Go.Proofs.Ytccmafmeblojpaa.lay L (i + 1))).toArray := by
  subst hv
  have := h.set_ i (.int .i64 (L.getD i 0))
  rw [List.setIfInBounds_toArray, icells_set, lay_set _ hi] at this
  exact this
/-- What Sale gives out. -/
def Got (w w' : World) (v : Value) (l : List Int) : Prop := (l = [] ∧ v = .slice none 0 0) ∨ ∃ gs, v = .slice (some ⟨gs, 0, none⟩) l.length l.length ∧ w.heap.size ≤ gs ∧ Blk w' gs 3 (icells l).toArray
/-- A loop that lays L into block gs. -/
def Lays (w wr : World) (gs : Nat) (L : List Int) (i : Nat) : Prop := Below w.heap.size w wr ∧ w.heap.size ≤ gs ∧ Blk wr gs 3 (icells (lay L i)).toArray
theorem Lays.put {w wr : World} {gs : Nat} {L : List Int} {i : Nat} (h : Lays w wr gs L i) (hi : i < L.length) {v : Int} (hv : v = L.getD i 0) : Lays w (wr.setCell ⟨gs, i, none⟩ (.int .i64 v)) gs L (i + 1) :=
  ⟨h.1.setCell (p := ⟨gs, i, none⟩) h.2.1 _, h.2.1, h.2.2.lay hi hv⟩
theorem Lays.alloc {w wr : World} {gs : Nat} {L : List Int} {i : Nat} (h : Lays w wr gs L i) (o : Obj) : Lays w (wr.alloc o) gs L i := ⟨h.1.alloc h.1.size _, h.2.1, h.2.2.alloc o⟩
theorem Lays.drew {w wr : World} {gs : Nat} {L : List Int} {i : Nat} (h : Lays w wr gs L i) : Lays w wr.drew gs L i := ⟨h.1.drew, h.2.1, h.2.2.drew⟩
theorem Lays.below {w wr w2 : World} {gs : Nat} {L : List Int} {i : Nat} (h : Lays w wr gs L i) (hb : Below wr.heap.size wr w2) : Lays w w2 gs L i := ⟨below_next h.1 hb, h.2.1, h.2.2.below hb h.2.2.lt⟩
theorem Lays.far {w wr : World} {gs g2 : Nat} {L : List Int} {i j : Nat} (h : Lays w wr gs L i) (hne : gs ≠ g2) (h2 : w.heap.size ≤ g2) (v : Value) : Lays w (wr.setCell ⟨g2, j, none⟩ v) gs L i := ⟨h.1.setCell (p := ⟨g2, j, none⟩) h2 _, h.2.1, h.2.2.far hne _⟩
theorem Lays.start {w w1 : World} (hb : Below w.heap.size w w1) (L : List Int) {n : Nat} (hn : L.length = n) : Lays w (w1.alloc (.cells (icells (List.replicate n 0)).toArray 3)) w1.heap.size L 0 := by
  refine ⟨hb.alloc hb.size _, hb.size, ?_⟩
  rw [lay_zero, hn]; exact Blk.new _ _ _
theorem Lays.at_ {w wr : World} {gs : Nat} {L : List Int} {i : Nat} (h : Lays w wr gs L i) (hi : i < L.length) : (∃ x, wr.cell? ⟨gs, i, none⟩ = some x) ∧ wr.frozen? ⟨gs, i, none⟩ = false := by
  obtain ⟨x, hx⟩ := lay_at L hi
  exact ⟨⟨x, by rw [h.2.2.cell, List.getElem?_toArray]; exact hx⟩, h.2.2.frozen i⟩
set_option maxHeartbeats 1000000 in
theorem sale_calls (w : World) (g gl : Nat) (a : Auc) (h : AtA w g gl a) (hf : a.Fair) :
    Calls Try.prog 27 #[.pointer (some ⟨g, 0, none⟩)] w fun e w' => ∃ v, e = .returned (.tuple #[.int .i64 a.sale.1, v, .int .i64 a.sale.2.2]) ∧ Got w w' v a.sale.2.1 ∧ Below w.heap.size w w' := by
  have H := Lib.hid h
  obtain ⟨c0, c1, c2, c3, c4, c5⟩ := h.cells
  obtain ⟨n, hn⟩ : ∃ n, Hid (a.l.length = n) := ⟨_, Lib.hid rfl⟩
  rw [hn.out] at c5
  have hn16 := h.ok.len.2
  rw [hn.out] at hn16
  have hmk := make_ints n (by omega)
  by_cases hs0 : a.state = 0
  · have E : Hid (a.sale = (0, [], 3)) := Lib.hid (by unfold Auc.sale; rw [if_pos hs0])
    rw [E.out]
    rw [hs0] at c4
    clear h hs0 c0 c1 c2 c3 c5 hmk hf
    go_enter Try.func27, Try.ntmps27
    go_wp2
    go_ret3
    exact ⟨_, rfl, .inl ⟨rfl, rfl⟩, Below.refl _ _⟩
  by_cases hs2 : a.state = 2
  · have E : Hid (a.sale = (0, List.replicate a.l.length 0, 0)) := Lib.hid (by unfold Auc.sale; rw [if_neg hs0, if_pos hs2])
    rw [E.out]
    rw [hs2] at c4
    clear h hs0 hs2 c0 c1 c2 c3 hf
    go_enter Try.func27, Try.ntmps27
    go_upto_region 6 with (fail)
    have c4x : (w.alloc (.cells (icells (List.replicate n 0)).toArray 3)).cell? ⟨g, 4, none⟩ = some (.int .i64 2) := (below_cell ((Below.refl _ _).alloc (Nat.le_refl _) _) H.out.head.lt).trans c4
    go_wp2
    go_ret3
    refine ⟨_, rfl, .inr ⟨w.heap.size, by simp [hn.out], Nat.le_refl _, ?_⟩, (Below.refl _ _).alloc (Nat.le_refl _) _⟩
    simp only [hn.out]
    exact Blk.new _ _ _
  have hs1 : a.state = 1 := by
    rcases h.ok.state with h | h | h
    · exact (hs0 h).elim
    · exact h
    · exact (hs2 h).elim
  have hD := Lib.hid (fun w (h : AtA w g gl a) => demand_calls w g gl a h)
  have hP := Lib.hid (fun w (h : AtA w g gl a) => price_calls w g gl a h)
  have hsold := hf.sold hs1
  have hsup := h.ok.supply
  have hdem : 0 ≤ a.demand := (Auc.nows_bound h.ok.each).1
  obtain ⟨left, hleft⟩ : ∃ left, a.supply - a.demand = left := ⟨_, rfl⟩
  have hlw : IntKind.i64.wrap left = left := by rw [IntKind.wrap_i64]; omega
  have hl0 : 0 ≤ left := by omega
  have hl1 : left ≤ 1048576 := by omega
  have hok := Lib.hid h.ok
  have hF := Lib.hid hf
  have hz1 := Lib.hid hs1
  rw [hs1] at c4
  have hnl : Hid (a.nowl.length = n) := Lib.hid (by unfold Auc.nowl; rw [List.length_map, hn.out])
  by_cases hq : a.round = 1 ∨ left = 0
  · have E : Hid (a.sale = (a.price, a.nowl, 0)) := Lib.hid (by unfold Auc.sale; rw [if_neg hs0, if_neg hs2, hleft, if_pos hq])
    rw [E.out]
    clear h hs0 hs2 hs1 hsold hsup hdem hf c1 c2
    have hways : ∃ r : Int, a.round = r ∧ (r = 1 ∨ ¬ r = 1 ∧ left = 0) := ⟨_, rfl, by omega⟩
    obtain ⟨r, hr, hways⟩ := hways
    rw [hr] at c3
    have HRR := Lib.hid hr
    clear hr hq
    rcases hways with rfl | ⟨hr1, rfl⟩
    all_goals
      go_enter Try.func27, Try.ntmps27
      go_upto_region 6 with (fail)
      have hb0 : Hid (Below w.heap.size w (w.alloc (.cells (icells (List.replicate n 0)).toArray 3))) := Lib.hid ((Below.refl _ _).alloc (Nat.le_refl _) _)
      have hL0 := Lib.hid (Lays.start (Below.refl w.heap.size w) a.nowl hnl.out)
      obtain ⟨gs, hgs⟩ : ∃ gs, gs = w.heap.size := ⟨_, rfl⟩
      rw [← hgs] at hL0 ⊢
      generalize World.alloc w _ = wx at hb0 hL0 ⊢
      have hAx := Lib.hid (H.out.below hb0.out)
      have c4x : wx.cell? ⟨g, 4, none⟩ = some (.int .i64 1) := hAx.out.cells.2.2.2.2.1.trans (by rw [hz1.out])
      clear hgs hb0
      go_upto_region 8 with (fail)
      go_region_held3 (fun w' => w'.cell? ⟨g, 0, none⟩ = some (.int .i64 a.supply))
        (first | exact (hAx.out.below hb1').cells.1 | exact hAx.out.drew.cells.1 | exact hAx.out.cells.1)
        ((go_at_call 22; (with_reducible refine (hD.out _ hAx.out.drew).mono ?_); rintro e w1 ⟨rfl, hb1⟩; have hb1' : Below wx.heap.size wx w1 := ⟨hb1.os, hb1.tape, hb1.output, hb1.size, hb1.block⟩))
      have hL1 := Lib.hid (hL0.out.below hb1')
      have hA1 := Lib.hid (hAx.out.below hb1')
      have c31 := hA1.out.cells.2.2.2.1
      rw [HRR.out] at c31
      have c51 : w1.cell? ⟨g, 5, none⟩ = some (.slice (some ⟨gl, 0, none⟩) n n) := by have := hA1.out.cells.2.2.2.2.2; rw [hn.out] at this; exact this
      clear c0 c3 c4 c5 c4x hL0 hAx hmk
      go_wp2
      go_loopg [56] (n + 1) (fun gk s56 wr => ∃ i, gk = n + 1 - i ∧ i ≤ n ∧ s56 = .int .i64 (i : Int) ∧ Hid (Lays w wr gs a.nowl i))
      case atStart => exact ⟨0, rfl, Nat.zero_le _, rfl, hL1⟩
      case round =>
        clear hL1 hA1 c31 c51
        obtain ⟨i, rfl, hi, rfl, hL⟩ := hrel
        have i0 : (0 : Int) ≤ (i : Int) := by omega
        have hA := Lib.hid (H.out.below hL.out.1)
        by_cases hlt : i < n
        · have hlt2 : (i : Int) < (n : Int) := by omega
          have hl : i < a.l.length := by rw [hn.out]; exact hlt
          have hv := Lib.hid (Auc.nowl_at a hl)
          have k1 := hA.out.was hl
          have k2 := hA.out.now hl
          generalize (a.l.getD i (0, 0)).1 = p1 at k1
          generalize (a.l.getD i (0, 0)).2 = p2 at k2 hv
          go_upto_region 13 with (fail)
          have hL2 := Lib.hid (hL.out.alloc (.cells #[.int .i64 p1, .int .i64 p2] 69))
          have cb : (wr.alloc (.cells #[.int .i64 p1, .int .i64 p2] 69)).cell? ⟨wr.heap.size, 1, none⟩ = some (.int .i64 p2) := (Blk.new wr _ _).cell 1
          obtain ⟨⟨x, hx⟩, fx⟩ := hL2.out.at_ (i := i) (by rw [hnl.out]; exact hlt)
          generalize World.alloc wr _ = wy at hL2 cb hx fx ⊢
          clear k1 k2 hl
          go_wp2
          go_roundg (n + 1 - (i + 1))
          case measure => omega
          case rel => exact ⟨i + 1, rfl, by omega, by go_num, Lib.hid (hL2.out.put (by rw [hnl.out]; exact hlt) hv.out.symm)⟩
        · obtain rfl : i = n := by omega
          go_wp2_with (first | (go_at_call 20; (with_reducible refine (hP.out _ hA.out).mono ?_); rintro e w' ⟨rfl, ⟨nd, rfl⟩⟩))
          go_ret3
          refine ⟨_, rfl, .inr ⟨gs, by rw [hnl.out]; rfl, hL.out.2.1, ?_⟩, below_draw hL.out.1 nd⟩
          have := hL.out.2.2.drewN nd
          have e := lay_all a.nowl
          rw [hnl.out] at e
          rw [e] at this; exact this
  · have hq1 : ¬ a.round = 1 := fun h => hq (.inl h)
    have hq2 : ¬ left = 0 := fun h => hq (.inr h)
    have E : Hid (a.sale = (a.price - a.step, List.zipWith (· + ·) a.nowl (Sh.shares left a.gaps), 0)) := Lib.hid (by unfold Auc.sale; rw [if_neg hs0, if_neg hs2, hleft, if_neg hq])
    rw [E.out]
    have hro := h.ok.round
    have hr2 : 1 < a.round := by omega
    have hgl2 : Hid (a.gaps.length = n) := Lib.hid (by unfold Auc.gaps; rw [List.length_map, hn.out])
    have hgb : Hid (∀ g ∈ a.gaps, 0 ≤ g ∧ g ≤ 1048576) := Lib.hid fun x hx => by
      unfold Auc.gaps at hx
      obtain ⟨p, hp, rfl⟩ := List.mem_map.1 hx
      have h1 := hok.out.each p hp
      have h2 := hF.out.fall hr2 p hp
      omega
    have hgs : Hid (left ≤ a.gaps.sum) := Lib.hid (by
      have e := Auc.gaps_sum a.l
      have h1 := hF.out.more hr2
      have h2 : a.gaps.sum = Auc.wases a.l - Auc.nows a.l := e
      have h3 : a.demand = Auc.nows a.l := rfl
      omega)
    have hrw : IntKind.i64.wrap (a.price - a.step) = a.price - a.step := by
      rw [IntKind.wrap_i64]
      have h1 := h.ok.lap
      have h2 := h.ok.step
      have h3 := h.ok.start
      have h4 : a.price = a.start + (a.round - 1) * a.step := rfl
      omega
    have hSh := Lib.hid (fun w A c (hR : Row w A n fun j => .int .i64 (a.gaps.getD j 0)) => shares_calls w left A n c a.gaps hgl2.out hn16 hgb.out ⟨hl0, hl1⟩ hgs.out hR)
    clear h hs0 hs2 hs1 hsold hsup hdem hf c1 c2 hq hro
    go_enter Try.func27, Try.ntmps27
    go_upto_region 6 with (fail)
    have hb0 : Hid (Below w.heap.size w (w.alloc (.cells (icells (List.replicate n 0)).toArray 3))) := Lib.hid ((Below.refl _ _).alloc (Nat.le_refl _) _)
    obtain ⟨ZL, hZL⟩ : ∃ ZL, Hid (List.zipWith (· + ·) a.nowl (Sh.shares left a.gaps) = ZL) := ⟨_, Lib.hid rfl⟩
    have hzl : Hid (ZL.length = n) := Lib.hid (by rw [← hZL.out, List.length_zipWith, hnl.out, Sh.shares_length, hgl2.out]; omega)
    have hL0 := Lib.hid (Lays.start (Below.refl w.heap.size w) ZL hzl.out)
    obtain ⟨gs, hgs'⟩ : ∃ gs, gs = w.heap.size := ⟨_, rfl⟩
    rw [← hgs'] at hL0 ⊢
    generalize World.alloc w _ = wx at hb0 hL0 ⊢
    have hAx := Lib.hid (H.out.below hb0.out)
    have c4x : wx.cell? ⟨g, 4, none⟩ = some (.int .i64 1) := hAx.out.cells.2.2.2.2.1.trans (by rw [hz1.out])
    clear hgs' hb0
    go_upto_region 8 with (fail)
    go_region_held3 (fun w' => w'.cell? ⟨g, 0, none⟩ = some (.int .i64 a.supply))
      (first | exact (hAx.out.below hb1').cells.1 | exact hAx.out.drew.cells.1 | exact hAx.out.cells.1)
      ((go_at_call 22; (with_reducible refine (hD.out _ hAx.out.drew).mono ?_); rintro e w1 ⟨rfl, hb1⟩; have hb1' : Below wx.heap.size wx w1 := ⟨hb1.os, hb1.tape, hb1.output, hb1.size, hb1.block⟩))
    have hL1 := Lib.hid (hL0.out.below hb1')
    have hA1 := Lib.hid (hAx.out.below hb1')
    have c31 := hA1.out.cells.2.2.2.1
    have c51 : w1.cell? ⟨g, 5, none⟩ = some (.slice (some ⟨gl, 0, none⟩) n n) := by have := hA1.out.cells.2.2.2.2.2; rw [hn.out] at this; exact this
    clear c0 c3 c4 c5 c4x hL0 hAx
    have hbq1 : (a.round == 1) = false := by simpa using hq1
    have hbq2 : (left == 0) = false := by simpa using hq2
    go_upto_region 17 with (fail)
    obtain ⟨gg, hgg⟩ : ∃ gg, gg = w1.heap.size := ⟨_, rfl⟩
    have hne : Hid (gs ≠ gg) := Lib.hid (by have := hL1.out.2.2.lt; omega)
    have hG0 := Lib.hid (Lays.start hL1.out.1 a.gaps hgl2.out)
    have hL2 := Lib.hid (hL1.out.alloc (.cells (icells (List.replicate n 0)).toArray 3))
    rw [← hgg] at hG0 ⊢
    generalize World.alloc w1 _ = wy at hG0 hL2 ⊢
    have c52 : wy.cell? ⟨g, 5, none⟩ = some (.slice (some ⟨gl, 0, none⟩) n n) := by have := (H.out.below hL2.out.1).cells.2.2.2.2.2; rw [hn.out] at this; exact this
    clear hgg hL1 hA1 c31 c51 hmk hb1 hb1'
    go_wp2
    go_loopg [81] (n + 1) (fun gk s81 wr => ∃ i, gk = n + 1 - i ∧ i ≤ n ∧ s81 = .int .i64 (i : Int) ∧ Hid (Lays w wr gg a.gaps i) ∧ Hid (Lays w wr gs ZL 0))
    case atStart => exact ⟨0, rfl, Nat.zero_le _, rfl, hG0, hL2⟩
    case round =>
      clear hG0 hL2 c52
      obtain ⟨i, rfl, hi, rfl, hG, hL⟩ := hrel
      have i0 : (0 : Int) ≤ (i : Int) := by omega
      have hA := Lib.hid (H.out.below hL.out.1)
      by_cases hlt : i < n
      · have hlt2 : (i : Int) < (n : Int) := by omega
        have hl : i < a.l.length := by rw [hn.out]; exact hlt
        have hv := Lib.hid (Auc.gaps_at a hl)
        have k1 := hA.out.was hl
        have k2 := hA.out.now hl
        obtain ⟨e1, e2, e3, e4⟩ := hok.out.each (a.l.getD i (0, 0)) (by rw [List.getD_eq_getElem?_getD, List.getElem?_eq_getElem hl]; exact List.getElem_mem hl)
        generalize (a.l.getD i (0, 0)).1 = p1 at k1 hv e1 e2
        generalize (a.l.getD i (0, 0)).2 = p2 at k2 hv e3 e4
        go_upto_region 20 with (fail)
        have hL2 := Lib.hid (hL.out.alloc (.cells #[.int .i64 p1, .int .i64 p2] 69))
        have hG2 := Lib.hid (hG.out.alloc (.cells #[.int .i64 p1, .int .i64 p2] 69))
        have cb0 : (wr.alloc (.cells #[.int .i64 p1, .int .i64 p2] 69)).cell? ⟨wr.heap.size, 0, none⟩ = some (.int .i64 p1) := (Blk.new wr _ _).cell 0
        have cb1 : (wr.alloc (.cells #[.int .i64 p1, .int .i64 p2] 69)).cell? ⟨wr.heap.size, 1, none⟩ = some (.int .i64 p2) := (Blk.new wr _ _).cell 1
        obtain ⟨⟨x, hx⟩, fx⟩ := hG2.out.at_ (i := i) (by rw [hgl2.out]; exact hlt)
        generalize World.alloc wr _ = wz at hL2 hG2 cb0 cb1 hx fx ⊢
        clear k1 k2 hl
        go_wp2
        go_roundg (n + 1 - (i + 1))
        case measure => omega
        case rel => exact ⟨i + 1, rfl, by omega, by go_num, Lib.hid (hG2.out.put (by rw [hgl2.out]; exact hlt) hv.out.symm), Lib.hid (hL2.out.far hne.out hG2.out.2.1 _)⟩
      · obtain rfl : i = n := by omega
        have hRow : Hid (Row wr (some ⟨gg, 0, none⟩) i fun j => .int .i64 (a.gaps.getD j 0)) := Lib.hid (.inr ⟨gg, 0, rfl, hG.out.2.2.lt, fun j hj => by
          have hB := hG.out.2.2
          have e := lay_all a.gaps
          rw [hgl2.out] at e
          rw [e] at hB
          rw [Nat.zero_add, hB.cell, List.getElem?_toArray]
          exact icells_get _ (by rw [hgl2.out]; exact hj)⟩)
        go_upto_region 23 with (first | (go_at_call 12; (with_reducible refine (hSh.out _ _ _ hRow.out).mono ?_); rintro e w3 ⟨go, rfl, hgo, hBo, hb3⟩))
        have hL3 := Lib.hid (hL.out.below hb3)
        have hno : Hid (go ≠ gs) := Lib.hid (by have := hL.out.2.2.lt; omega)
        have hBo' := Lib.hid hBo
        have c53 : w3.cell? ⟨g, 5, none⟩ = some (.slice (some ⟨gl, 0, none⟩) i i) := by have := (H.out.below hL3.out.1).cells.2.2.2.2.2; rw [hn.out] at this; exact this
        clear hBo hgo hb3 hL hG hA hRow
        go_wp2
        go_loopg [106] (i + 1) (fun gk s106 wr => ∃ j, gk = i + 1 - j ∧ j ≤ i ∧ s106 = .int .i64 (j : Int) ∧ Hid (Lays w wr gs ZL j) ∧ Hid (Blk wr go 3 (icells (Sh.shares left a.gaps)).toArray))
        case atStart => exact ⟨0, rfl, Nat.zero_le _, rfl, hL3, hBo'⟩
        case round =>
          clear hL3 hBo' c53
          obtain ⟨j, rfl, hj, rfl, hL, hB⟩ := hrel
          have j0 : (0 : Int) ≤ (j : Int) := by omega
          have hA := Lib.hid (H.out.below hL.out.1)
          by_cases hlt : j < i
          · have hlt2 : (j : Int) < (i : Int) := by omega
            have hl : j < a.l.length := by rw [hn.out]; exact hlt
            have hv : Hid ((a.l.getD j (0, 0)).2 + (Sh.shares left a.gaps).getD j 0 = ZL.getD j 0) := Lib.hid (by
              rw [← hZL.out, ← Auc.nowl_at a hl]
              rw [List.getD_eq_getElem?_getD (l := List.zipWith _ _ _), List.getElem?_zipWith, List.getD_eq_getElem?_getD, List.getD_eq_getElem?_getD]
              rw [List.getElem?_eq_getElem (l := a.nowl) (by rw [hnl.out]; exact hlt), List.getElem?_eq_getElem (l := Sh.shares left a.gaps) (by rw [Sh.shares_length, hgl2.out]; exact hlt)]
              rfl)
            have k1 := hA.out.was hl
            have k2 := hA.out.now hl
            obtain ⟨e1, e2, e3, e4⟩ := hok.out.each (a.l.getD j (0, 0)) (by rw [List.getD_eq_getElem?_getD, List.getElem?_eq_getElem hl]; exact List.getElem_mem hl)
            obtain ⟨m0, m1⟩ := Sh.shares_el ⟨hl0, hl1⟩ hgb.out (by rw [hgl2.out]; exact hn16) j
            have hBl : j < (Sh.shares left a.gaps).length := by rw [Sh.shares_length, hgl2.out]; exact hlt
            obtain ⟨y, hy⟩ : ∃ y, Hid ((Sh.shares left a.gaps).getD j 0 = y) := ⟨_, Lib.hid rfl⟩
            rw [hy.out] at m0 m1 hv
            have hmore : Hid (∀ w', Blk w' go 3 (icells (Sh.shares left a.gaps)).toArray → w'.cell? ⟨go, j, none⟩ = some (.int .i64 y)) := Lib.hid fun w' hb => by
              rw [hb.cell, List.getElem?_toArray, icells_get _ hBl, hy.out]
            generalize (a.l.getD j (0, 0)).1 = p1 at k1 e1 e2
            generalize (a.l.getD j (0, 0)).2 = p2 at k2 hv e3 e4
            go_upto_region 26 with (fail)
            have hL2 := Lib.hid (hL.out.alloc (.cells #[.int .i64 p1, .int .i64 p2] 69))
            have hB2 := Lib.hid (hB.out.alloc (.cells #[.int .i64 p1, .int .i64 p2] 69))
            have cb1 : (wr.alloc (.cells #[.int .i64 p1, .int .i64 p2] 69)).cell? ⟨wr.heap.size, 1, none⟩ = some (.int .i64 p2) := (Blk.new wr _ _).cell 1
            obtain ⟨⟨x, hx⟩, fx⟩ := hL2.out.at_ (i := j) (by rw [hzl.out]; exact hlt)
            generalize World.alloc wr _ = wz at hL2 hB2 cb1 hx fx ⊢
            have cm := hmore.out wz hB2.out
            have q1 : IntKind.i64.wrap (p2 + y) = p2 + y := by rw [IntKind.wrap_i64]; omega
            clear k1 k2 hl hBl
            go_still_tail 10, (by kernel_rfl)
            change wpList _ _ _ _ _ wz.drew
            clear q1
            go_wp2
            go_roundg (i + 1 - (j + 1))
            case measure => omega
            case rel => exact ⟨j + 1, rfl, by omega, by go_num, Lib.hid (hL2.out.drew.put (by rw [hzl.out]; exact hlt) hv.out), Lib.hid (hB2.out.drew.far hno.out _)⟩
          · obtain rfl : j = i := by omega
            have c2 := hA.out.cells.2.2.1
            go_upto_region 28 with (fail)
            go_quiet ((go_at_call 20; (first | (with_reducible refine (hP.out _ (hA.out.drewN _)).mono ?_) | (with_reducible refine (hP.out _ hA.out.drew).mono ?_)); rintro e w' ⟨rfl, ⟨nd, rfl⟩⟩; first | exact ⟨rfl, _, World.drewN_drewN _ _ _⟩ | exact ⟨rfl, _, rfl⟩))
            go_wp2
            go_ret3
            refine ⟨_, rfl, .inr ⟨gs, by rw [hZL.out, hzl.out]; rfl, hL.out.2.1, ?_⟩, below_draw hL.out.1 _⟩
            have := hL.out.2.2.drewN nq
            have e := lay_all ZL
            rw [hzl.out] at e
            rw [e, ← hZL.out] at this; exact this
end Go.Proofs.Ytccmafmeblojpaa
