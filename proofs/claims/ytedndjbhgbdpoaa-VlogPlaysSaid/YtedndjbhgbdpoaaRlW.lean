/- The reference's Proposal, Voted, Last (printed by genrl.py). -/
import Derived.Test.YtedndjbhgbdpoaaRlM
namespace Go.Proofs.Ytedndjbhgbdpoaa
open Go.RowKit
set_option linter.unusedSimpArgs false
theorem find_at {p : It → Bool} {L : List It} {i : Nat} (h : L.find? p = (L.drop i).find? p) (hi : i < L.length) : (p (L.getD i It.none) = true → L.find? p = some (L.getD i It.none)) ∧ (p (L.getD i It.none) = false → L.find? p = (L.drop (i + 1)).find? p) := by
  have e : L.drop i = L.getD i It.none :: L.drop (i + 1) := by
    rw [List.drop_eq_getElem_cons hi, List.getD_eq_getElem?_getD, List.getElem?_eq_getElem hi]; rfl
  rw [h, e]
  constructor
  · intro hp
    rw [List.find?_cons_of_pos hp]
  · intro hp
    rw [List.find?_cons_of_neg (by rw [hp]; decide)]
theorem find_end {p : It → Bool} {L : List It} {i : Nat} (h : L.find? p = (L.drop i).find? p) (hi : L.length ≤ i) : L.find? p = Option.none := by
  rw [h, List.drop_of_length_le hi]; rfl
theorem below_nine {B g : Nat} {w W : World} (h : Below B w W) (hB : B ≤ g) (v0 v1 v2 v3 v4 v5 v6 v7 v8 : Value) : Below B w (((((((((W.setCell ⟨g, 0, none⟩ v0).setCell ⟨g, 1, none⟩ v1).setCell ⟨g, 2, none⟩ v2).setCell ⟨g, 3, none⟩ v3).setCell ⟨g, 4, none⟩ v4).setCell ⟨g, 5, none⟩ v5).setCell ⟨g, 6, none⟩ v6).setCell ⟨g, 7, none⟩ v7).setCell ⟨g, 8, none⟩ v8) := ((((((((h.setCell hB _).setCell hB _).setCell hB _).setCell hB _).setCell hB _).setCell hB _).setCell hB _).setCell hB _).setCell hB _
def TellsItem (w : World) (o : Option It) (e : Ending) (w' : World) : Prop := e = .returned (.tuple #[.agg (icell (o.getD It.none)).toArray, .bool o.isSome]) ∧ Below w.heap.size w w'
theorem tellsItem {w w' : World} {o : Option It} {x : It} (h : o = some x) (hb : Below w.heap.size w w') : TellsItem w o (.returned (.tuple #[.agg #[.int .i64 x.kind, .int .i64 x.frm, .int .i64 x.view, .int .i64 x.seq, .string x.digest, .string x.batch, .int .i64 x.m.frm, .string x.m.body, .string x.m.sig], .bool true])) w' := by
  subst h; exact ⟨rfl, hb⟩
theorem tellsNone {w w' : World} {o : Option It} (h : o = Option.none) (hb : Below w.heap.size w w') : TellsItem w o (.returned (.tuple #[.agg #[.int .i64 0, .int .i64 0, .int .i64 0, .int .i64 0, .string ⟨#[]⟩, .string ⟨#[]⟩, .int .i64 0, .string ⟨#[]⟩, .string ⟨#[]⟩], .bool false])) w' := by
  subst h; exact ⟨rfl, hb⟩
set_option maxHeartbeats 4000000 in
theorem rproposal_calls (w : World) (A B : Option Addr) (cA k cB : Nat) (y : Rl) (h : IRow w A y.L) (hlo : 0 ≤ y.low ∧ y.low ≤ 1073741824) (hlen : y.L.length ≤ 1000) (seq : Int) :
    Calls Try.prog 52 #[.agg #[.int .i64 y.n, .int .i64 y.view, .int .i64 y.low, .slice A y.L.length cA, .slice B k cB], .int .i64 seq] w (TellsItem w (y.proposal seq)) := by
  have H := Lib.hid h
  obtain ⟨h0, h1⟩ := hlo
  obtain ⟨m, hm⟩ : ∃ m, Hid (y.L.length = m) := ⟨_, Lib.hid rfl⟩
  have HP : Hid (y.proposal seq = y.L.find? (fun x => decide (y.within seq) && y.here x 2 seq)) := Lib.hid rfl
  obtain ⟨p, hp⟩ : ∃ p : It → Bool, p = (fun x => decide (y.within seq) && y.here x 2 seq) := ⟨_, rfl⟩
  rw [← hp] at HP
  have HPP : Hid (∀ x, p x = (fun x => decide (y.within seq) && y.here x 2 seq) x) := Lib.hid fun x => by rw [hp]
  have HW : Hid (y.within seq ↔ y.low < seq ∧ seq ≤ y.low + 8) := Lib.hid Iff.rfl
  rw [hm.out] at hlen ⊢
  rw [HP.out]
  clear h hp
  obtain ⟨n, hn⟩ : ∃ n, Hid (y.n = n) := ⟨_, Lib.hid rfl⟩
  obtain ⟨v, hv⟩ : ∃ v, Hid (y.view = v) := ⟨_, Lib.hid rfl⟩
  obtain ⟨lo, hl⟩ : ∃ lo, Hid (y.low = lo) := ⟨_, Lib.hid rfl⟩
  rw [hl.out] at h0 h1 HW
  rw [hn.out, hv.out, hl.out]
  have HWc := Lib.hid (fun w => rwithin_calls w n v lo A B m cA k cB seq h0 h1)
  have HHc := Lib.hid (fun (x : It) (kd : Int) w => rhere_calls w n v lo A B m cA k cB x kd seq)
  clear h0 h1
  go_enter Try.func52, Try.ntmps52
  go_upto_region 1 with (fail)
  have hb0 : Hid (Below w.heap.size w ((w.alloc (.cells #[.int .i64 n, .int .i64 v, .int .i64 lo, .slice A m cA, .slice B k cB] 65)).alloc (.cells #[.int .i64 0, .int .i64 0, .int .i64 0, .int .i64 0, .string ⟨#[]⟩, .string ⟨#[]⟩, .int .i64 0, .string ⟨#[]⟩, .string ⟨#[]⟩] 106))) := Lib.hid (((Below.refl _ _).alloc (Nat.le_refl _) _).alloc (by simp) _)
  have B1 : Hid (Blk ((w.alloc (.cells #[.int .i64 n, .int .i64 v, .int .i64 lo, .slice A m cA, .slice B k cB] 65)).alloc (.cells #[.int .i64 0, .int .i64 0, .int .i64 0, .int .i64 0, .string ⟨#[]⟩, .string ⟨#[]⟩, .int .i64 0, .string ⟨#[]⟩, .string ⟨#[]⟩] 106)) w.heap.size 65 #[.int .i64 n, .int .i64 v, .int .i64 lo, .slice A m cA, .slice B k cB]) := Lib.hid ((Blk.new _ _ _).alloc _)
  have B2 : Hid (Blk ((w.alloc (.cells #[.int .i64 n, .int .i64 v, .int .i64 lo, .slice A m cA, .slice B k cB] 65)).alloc (.cells #[.int .i64 0, .int .i64 0, .int .i64 0, .int .i64 0, .string ⟨#[]⟩, .string ⟨#[]⟩, .int .i64 0, .string ⟨#[]⟩, .string ⟨#[]⟩] 106)) (w.heap.size + 1) 106 #[.int .i64 0, .int .i64 0, .int .i64 0, .int .i64 0, .string ⟨#[]⟩, .string ⟨#[]⟩, .int .i64 0, .string ⟨#[]⟩, .string ⟨#[]⟩]) := Lib.hid (by have := Blk.new (w.alloc (.cells #[.int .i64 n, .int .i64 v, .int .i64 lo, .slice A m cA, .slice B k cB] 65)) 106 #[.int .i64 0, .int .i64 0, .int .i64 0, .int .i64 0, .string ⟨#[]⟩, .string ⟨#[]⟩, .int .i64 0, .string ⟨#[]⟩, .string ⟨#[]⟩]; simpa using this)
  obtain ⟨g1, hg1⟩ : ∃ g1, w.heap.size = g1 := ⟨_, rfl⟩
  have HG := Lib.hid hg1
  rw [hg1] at B1 B2 ⊢
  clear hg1
  generalize World.alloc (World.alloc w _) _ = wy at hb0 B1 B2 ⊢
  have HX : Hid (∀ wx : World, Below wy.heap.size wy wx → (wx.cell? ⟨g1, 0, none⟩ = some (.int .i64 n) ∧ wx.cell? ⟨g1, 1, none⟩ = some (.int .i64 v) ∧ wx.cell? ⟨g1, 2, none⟩ = some (.int .i64 lo) ∧ wx.cell? ⟨g1, 3, none⟩ = some (.slice A m cA) ∧ wx.cell? ⟨g1, 4, none⟩ = some (.slice B k cB))) := Lib.hid fun wx hb => by
    have b1 := B1.out.below hb B1.out.lt
    exact ⟨b1.cell 0, b1.cell 1, b1.cell 2, b1.cell 3, b1.cell 4⟩
  have HZ : Hid (∀ wx : World, Below wy.heap.size wy wx → (wx.cell? ⟨g1 + 1, 0, none⟩ = some (.int .i64 0) ∧ wx.cell? ⟨g1 + 1, 1, none⟩ = some (.int .i64 0) ∧ wx.cell? ⟨g1 + 1, 2, none⟩ = some (.int .i64 0) ∧ wx.cell? ⟨g1 + 1, 3, none⟩ = some (.int .i64 0) ∧ wx.cell? ⟨g1 + 1, 4, none⟩ = some (.string ⟨#[]⟩) ∧ wx.cell? ⟨g1 + 1, 5, none⟩ = some (.string ⟨#[]⟩) ∧ wx.cell? ⟨g1 + 1, 6, none⟩ = some (.int .i64 0) ∧ wx.cell? ⟨g1 + 1, 7, none⟩ = some (.string ⟨#[]⟩) ∧ wx.cell? ⟨g1 + 1, 8, none⟩ = some (.string ⟨#[]⟩) ∧ wx.frozen? ⟨g1 + 1, 0, none⟩ = false ∧ wx.frozen? ⟨g1 + 1, 1, none⟩ = false ∧ wx.frozen? ⟨g1 + 1, 2, none⟩ = false ∧ wx.frozen? ⟨g1 + 1, 3, none⟩ = false ∧ wx.frozen? ⟨g1 + 1, 4, none⟩ = false ∧ wx.frozen? ⟨g1 + 1, 5, none⟩ = false ∧ wx.frozen? ⟨g1 + 1, 6, none⟩ = false ∧ wx.frozen? ⟨g1 + 1, 7, none⟩ = false ∧ wx.frozen? ⟨g1 + 1, 8, none⟩ = false)) := Lib.hid fun wx hb => by
    have b2 := B2.out.below hb B2.out.lt
    exact ⟨b2.cell 0, b2.cell 1, b2.cell 2, b2.cell 3, b2.cell 4, b2.cell 5, b2.cell 6, b2.cell 7, b2.cell 8, b2.frozen 0, b2.frozen 1, b2.frozen 2, b2.frozen 3, b2.frozen 4, b2.frozen 5, b2.frozen 6, b2.frozen 7, b2.frozen 8⟩
  go_wp2
  go_loopg [6] (m + 1) (fun gk s wr => ∃ i : Nat, gk = m + 1 - i ∧ i ≤ m ∧ s = .int .i64 (i : Int) ∧ Hid (y.L.find? p = (y.L.drop i).find? p) ∧ Hid (Below wy.heap.size wy wr))
  case atStart => exact ⟨0, rfl, Nat.zero_le _, rfl, Lib.hid rfl, Lib.hid (Below.refl _ _)⟩
  case round =>
    obtain ⟨i, rfl, hi, rfl, hf, hb⟩ := hrel
    have i0 : (0 : Int) ≤ (i : Int) := by omega
    obtain ⟨c0, c1, c2, c3, c4⟩ := HX.out wr hb.out
    by_cases hlt : i < m
    · have hltI : (i : Int) < (m : Int) := by omega
      obtain ⟨b, o, rfl, hcc⟩ := H.out.cells (i := i) (by rw [hm.out]; exact hlt)
      have HF := Lib.hid (find_at hf.out (by rw [hm.out]; exact hlt))
      generalize y.L.getD i It.none = x at hcc HF
      have HI : Hid (∀ wx : World, Below wr.heap.size wr wx → (wx.cell? ⟨b, o + i * 9, none⟩ = some (.int .i64 x.kind) ∧ wx.cell? ⟨b, o + i * 9 + 1, none⟩ = some (.int .i64 x.frm) ∧ wx.cell? ⟨b, o + i * 9 + 2, none⟩ = some (.int .i64 x.view) ∧ wx.cell? ⟨b, o + i * 9 + 3, none⟩ = some (.int .i64 x.seq) ∧ wx.cell? ⟨b, o + i * 9 + 4, none⟩ = some (.string x.digest) ∧ wx.cell? ⟨b, o + i * 9 + 5, none⟩ = some (.string x.batch) ∧ wx.cell? ⟨b, o + i * 9 + 6, none⟩ = some (.int .i64 x.m.frm) ∧ wx.cell? ⟨b, o + i * 9 + 7, none⟩ = some (.string x.m.body) ∧ wx.cell? ⟨b, o + i * 9 + 8, none⟩ = some (.string x.m.sig))) := Lib.hid fun wx hx => by
        have hxx := below_next (below_next hb0.out hb.out) hx
        exact ⟨hcc wx hxx 0 (by omega), hcc wx hxx 1 (by omega), hcc wx hxx 2 (by omega), hcc wx hxx 3 (by omega), hcc wx hxx 4 (by omega), hcc wx hxx 5 (by omega), hcc wx hxx 6 (by omega), hcc wx hxx 7 (by omega), hcc wx hxx 8 (by omega)⟩
      have HS : Hid (∀ wx : World, Below wr.heap.size wr wx → (wx.cell? ⟨g1, 0, none⟩ = some (.int .i64 n) ∧ wx.cell? ⟨g1, 1, none⟩ = some (.int .i64 v) ∧ wx.cell? ⟨g1, 2, none⟩ = some (.int .i64 lo) ∧ wx.cell? ⟨g1, 3, none⟩ = some (.slice (some ⟨b, o, none⟩) m cA) ∧ wx.cell? ⟨g1, 4, none⟩ = some (.slice B k cB)) ∧ (wx.cell? ⟨b, o + i * 9, none⟩ = some (.int .i64 x.kind) ∧ wx.cell? ⟨b, o + i * 9 + 1, none⟩ = some (.int .i64 x.frm) ∧ wx.cell? ⟨b, o + i * 9 + 2, none⟩ = some (.int .i64 x.view) ∧ wx.cell? ⟨b, o + i * 9 + 3, none⟩ = some (.int .i64 x.seq) ∧ wx.cell? ⟨b, o + i * 9 + 4, none⟩ = some (.string x.digest) ∧ wx.cell? ⟨b, o + i * 9 + 5, none⟩ = some (.string x.batch) ∧ wx.cell? ⟨b, o + i * 9 + 6, none⟩ = some (.int .i64 x.m.frm) ∧ wx.cell? ⟨b, o + i * 9 + 7, none⟩ = some (.string x.m.body) ∧ wx.cell? ⟨b, o + i * 9 + 8, none⟩ = some (.string x.m.sig))) := Lib.hid fun wx hx => ⟨HX.out wx (below_next hb.out hx), HI.out wx hx⟩
      clear hcc
      have Hd0 : Hid (Below wr.heap.size wr wr.drew) := Lib.hid (Below.refl _ _).drew
      obtain ⟨⟨c0, c1, c2, c3, c4⟩, x0, x1, x2, x3, x4, x5, x6, x7, x8⟩ := HS.out wr (Below.refl _ _)
      go_upto_region 4 with (fail)
      by_cases hw : lo < seq ∧ seq ≤ lo + 8
      · have HWx : Hid (∀ w, _) := HWc
        rw [decide_eq_true hw] at HWx
        have HHx := Lib.hid (HHc.out x 2)
        obtain ⟨hh, HHB⟩ : ∃ hh, Hid ((decide (x.kind = 2) && decide (x.view = v) && decide (x.seq = seq)) = hh) := ⟨_, Lib.hid rfl⟩
        rw [HHB.out] at HHx
        have E : Hid (p x = hh) := Lib.hid (by rw [HPP.out, ← HHB.out, ← hv.out]; show (decide (y.within seq) && _) = _; rw [decide_eq_true (HW.out.2 hw), Bool.true_and]; rfl)
        clear hw HWc HHc
        cases hh with
        | true =>
          go_region_held3 (fun w' => (w'.cell? ⟨g1, 0, none⟩ = some (.int .i64 n) ∧ w'.cell? ⟨g1, 1, none⟩ = some (.int .i64 v) ∧ w'.cell? ⟨g1, 2, none⟩ = some (.int .i64 lo) ∧ w'.cell? ⟨g1, 3, none⟩ = some (.slice (some ⟨b, o, none⟩) m cA) ∧ w'.cell? ⟨g1, 4, none⟩ = some (.slice B k cB)) ∧ (w'.cell? ⟨b, o + i * 9, none⟩ = some (.int .i64 x.kind) ∧ w'.cell? ⟨b, o + i * 9 + 1, none⟩ = some (.int .i64 x.frm) ∧ w'.cell? ⟨b, o + i * 9 + 2, none⟩ = some (.int .i64 x.view) ∧ w'.cell? ⟨b, o + i * 9 + 3, none⟩ = some (.int .i64 x.seq) ∧ w'.cell? ⟨b, o + i * 9 + 4, none⟩ = some (.string x.digest) ∧ w'.cell? ⟨b, o + i * 9 + 5, none⟩ = some (.string x.batch) ∧ w'.cell? ⟨b, o + i * 9 + 6, none⟩ = some (.int .i64 x.m.frm) ∧ w'.cell? ⟨b, o + i * 9 + 7, none⟩ = some (.string x.m.body) ∧ w'.cell? ⟨b, o + i * 9 + 8, none⟩ = some (.string x.m.sig)))
            (first | exact HS.out _ Hd0.out | exact HS.out _ (below_next Hd0.out hbw) | exact HS.out _ (below_next (below_next Hd0.out hbw) hbh))
            (first
          | (go_at_call 51; (with_reducible refine (HWx.out _).mono ?_); rintro e ww ⟨rfl, hbw⟩)
          | (go_at_call 58; (with_reducible refine (HHx.out _).mono ?_); rintro e wh ⟨rfl, hbh⟩))
          have HL := Lib.hid (below_next (below_next Hd0.out hbw) hbh)
          clear c0 c1 c2 c3 c4 x0 x1 x2 x3 x4 x5 x6 x7 x8
          have HBz : Hid (Below w.heap.size w wh) := Lib.hid (below_next (below_next hb0.out hb.out) HL.out)
          obtain ⟨⟨c0, c1, c2, c3, c4⟩, x0, x1, x2, x3, x4, x5, x6, x7, x8⟩ := HS.out _ HL.out
          obtain ⟨z0, z1, z2, z3, z4, z5, z6, z7, z8, f0, f1, f2, f3, f4, f5, f6, f7, f8⟩ := HZ.out _ (below_next hb.out HL.out)
          go_wp2
          (try simp only [Exit.inBlock, Exit.then])
          refine bodyPost_ret (by simp [results, Try.results52, asAddr, go_sem, z0, z1, z2, z3, z4, z5, z6, z7, z8]; rfl) rfl ?_
          exact tellsItem (HF.out.1 (by first | exact E.out | rw [E.out])) (below_nine HBz.out (by rw [HG.out]; exact Nat.le_succ _) _ _ _ _ _ _ _ _ _)
        | false =>
          go_region_held3 (fun w' => (w'.cell? ⟨g1, 0, none⟩ = some (.int .i64 n) ∧ w'.cell? ⟨g1, 1, none⟩ = some (.int .i64 v) ∧ w'.cell? ⟨g1, 2, none⟩ = some (.int .i64 lo) ∧ w'.cell? ⟨g1, 3, none⟩ = some (.slice (some ⟨b, o, none⟩) m cA) ∧ w'.cell? ⟨g1, 4, none⟩ = some (.slice B k cB)) ∧ (w'.cell? ⟨b, o + i * 9, none⟩ = some (.int .i64 x.kind) ∧ w'.cell? ⟨b, o + i * 9 + 1, none⟩ = some (.int .i64 x.frm) ∧ w'.cell? ⟨b, o + i * 9 + 2, none⟩ = some (.int .i64 x.view) ∧ w'.cell? ⟨b, o + i * 9 + 3, none⟩ = some (.int .i64 x.seq) ∧ w'.cell? ⟨b, o + i * 9 + 4, none⟩ = some (.string x.digest) ∧ w'.cell? ⟨b, o + i * 9 + 5, none⟩ = some (.string x.batch) ∧ w'.cell? ⟨b, o + i * 9 + 6, none⟩ = some (.int .i64 x.m.frm) ∧ w'.cell? ⟨b, o + i * 9 + 7, none⟩ = some (.string x.m.body) ∧ w'.cell? ⟨b, o + i * 9 + 8, none⟩ = some (.string x.m.sig)))
            (first | exact HS.out _ Hd0.out | exact HS.out _ (below_next Hd0.out hbw) | exact HS.out _ (below_next (below_next Hd0.out hbw) hbh))
            (first
          | (go_at_call 51; (with_reducible refine (HWx.out _).mono ?_); rintro e ww ⟨rfl, hbw⟩)
          | (go_at_call 58; (with_reducible refine (HHx.out _).mono ?_); rintro e wh ⟨rfl, hbh⟩))
          have HL := Lib.hid (below_next (below_next Hd0.out hbw) hbh)
          clear c0 c1 c2 c3 c4 x0 x1 x2 x3 x4 x5 x6 x7 x8
          obtain ⟨⟨c0, c1, c2, c3, c4⟩, -⟩ := HS.out _ HL.out
          go_wp2
          go_roundg (m + 1 - (i + 1))
          case measure => omega
          case rel => exact ⟨i + 1, rfl, by omega, by go_num, Lib.hid (HF.out.2 (by first | exact E.out | rw [E.out])), Lib.hid (below_next hb.out HL.out)⟩
      · have HWx : Hid (∀ w, _) := HWc
        rw [decide_eq_false hw] at HWx
        have E : Hid (p x = false) := Lib.hid (by rw [HPP.out]; show (decide (y.within seq) && _) = _; rw [decide_eq_false (fun hh => hw (HW.out.1 hh)), Bool.false_and])
        have HHx := HHc
        clear hw HWc HHc
        refine wp_region_held_drew (S := (fun w' => (w'.cell? ⟨g1, 0, none⟩ = some (.int .i64 n) ∧ w'.cell? ⟨g1, 1, none⟩ = some (.int .i64 v) ∧ w'.cell? ⟨g1, 2, none⟩ = some (.int .i64 lo) ∧ w'.cell? ⟨g1, 3, none⟩ = some (.slice (some ⟨b, o, none⟩) m cA) ∧ w'.cell? ⟨g1, 4, none⟩ = some (.slice B k cB)) ∧ (w'.cell? ⟨b, o + i * 9, none⟩ = some (.int .i64 x.kind) ∧ w'.cell? ⟨b, o + i * 9 + 1, none⟩ = some (.int .i64 x.frm) ∧ w'.cell? ⟨b, o + i * 9 + 2, none⟩ = some (.int .i64 x.view) ∧ w'.cell? ⟨b, o + i * 9 + 3, none⟩ = some (.int .i64 x.seq) ∧ w'.cell? ⟨b, o + i * 9 + 4, none⟩ = some (.string x.digest) ∧ w'.cell? ⟨b, o + i * 9 + 5, none⟩ = some (.string x.batch) ∧ w'.cell? ⟨b, o + i * 9 + 6, none⟩ = some (.int .i64 x.m.frm) ∧ w'.cell? ⟨b, o + i * 9 + 7, none⟩ = some (.string x.m.body) ∧ w'.cell? ⟨b, o + i * 9 + 8, none⟩ = some (.string x.m.sig)))) (by kernel_rfl) (HS.out _ Hd0.out) (fun hHeld => ?_)
        refine takeH (i := 0) (v := ?_) (some 14) rfl rfl (by kernel_rfl) (by kernel_rfl) (by kernel_rfl) (fun _ _ _ h => h) (Or.inl ⟨by rfl, ?_⟩) (by assumption) ?_
        rotate_left
        · intro w hSw
          (try dsimp only at hSw)
          go_simp
          (try (with_reducible rfl))
        (try simp only [Act.put, List.setIfInBounds_toArray, List.set_cons_zero, List.set_cons_succ])
        refine takeH (i := 1) (v := ?_) (some 15) rfl rfl (by kernel_rfl) (by kernel_rfl) (by kernel_rfl) (fun _ _ _ h => h) (Or.inl ⟨by rfl, ?_⟩) (by assumption) ?_
        rotate_left
        · intro w hSw
          (try dsimp only at hSw)
          go_simp
          (try (with_reducible rfl))
        (try simp only [Act.put, List.setIfInBounds_toArray, List.set_cons_zero, List.set_cons_succ])
        refine callH (i := 2) (some 16) (by kernel_rfl) rfl rfl (by rfl) (fun K hK => ?_)
        go_simp
        (go_at_call 51; (with_reducible refine (HWx.out _).mono ?_); rintro e ww ⟨rfl, hbw⟩)
        refine hK.out _ _ (HS.out _ (below_next Hd0.out hbw)) (fun hHeld => ?_)
        clear hK K
        (try simp only [Act.put, List.setIfInBounds_toArray, List.set_cons_zero, List.set_cons_succ])
        refine takeH (i := 3) (v := ?_) (some 17) rfl rfl (by kernel_rfl) (by kernel_rfl) (by kernel_rfl) (fun _ _ _ h => h) (Or.inl ⟨by rfl, ?_⟩) (by assumption) ?_
        rotate_left
        · intro w hSw
          (try dsimp only at hSw)
          go_simp
          (try (with_reducible rfl))
        (try simp only [Act.put, List.setIfInBounds_toArray, List.set_cons_zero, List.set_cons_succ])
        refine takeH (i := 4) (v := undef) (some 18) rfl rfl (by kernel_rfl) (by kernel_rfl) (by kernel_rfl) (fun _ _ _ h => h) (Or.inr ⟨by rfl, rfl⟩) (by assumption) ?_
        (try simp only [Act.put, List.setIfInBounds_toArray, List.set_cons_zero, List.set_cons_succ])
        refine takeH (i := 5) (v := undef) (some 19) rfl rfl (by kernel_rfl) (by kernel_rfl) (by kernel_rfl) (fun _ _ _ h => h) (Or.inr ⟨by rfl, rfl⟩) (by assumption) ?_
        (try simp only [Act.put, List.setIfInBounds_toArray, List.set_cons_zero, List.set_cons_succ])
        refine takeH (i := 6) (v := undef) (some 20) rfl rfl (by kernel_rfl) (by kernel_rfl) (by kernel_rfl) (fun _ _ _ h => h) (Or.inr ⟨by rfl, rfl⟩) (by assumption) ?_
        (try simp only [Act.put, List.setIfInBounds_toArray, List.set_cons_zero, List.set_cons_succ])
        refine takeH (i := 7) (v := undef) (some 21) rfl rfl (by kernel_rfl) (by kernel_rfl) (by kernel_rfl) (fun _ _ _ h => h) (Or.inr ⟨by rfl, rfl⟩) (by assumption) ?_
        (try simp only [Act.put, List.setIfInBounds_toArray, List.set_cons_zero, List.set_cons_succ])
        refine takeH (i := 8) (v := undef) (some 22) rfl rfl (by kernel_rfl) (by kernel_rfl) (by kernel_rfl) (fun _ _ _ h => h) (Or.inr ⟨by rfl, rfl⟩) (by assumption) ?_
        (try simp only [Act.put, List.setIfInBounds_toArray, List.set_cons_zero, List.set_cons_succ])
        refine takeH (i := 9) (v := undef) (some 23) rfl rfl (by kernel_rfl) (by kernel_rfl) (by kernel_rfl) (fun _ _ _ h => h) (Or.inr ⟨by rfl, rfl⟩) (by assumption) ?_
        (try simp only [Act.put, List.setIfInBounds_toArray, List.set_cons_zero, List.set_cons_succ])
        refine takeH (i := 10) (v := undef) (some 24) rfl rfl (by kernel_rfl) (by kernel_rfl) (by kernel_rfl) (fun _ _ _ h => h) (Or.inr ⟨by rfl, rfl⟩) (by assumption) ?_
        (try simp only [Act.put, List.setIfInBounds_toArray, List.set_cons_zero, List.set_cons_succ])
        refine takeH (i := 11) (v := undef) (some 25) rfl rfl (by kernel_rfl) (by kernel_rfl) (by kernel_rfl) (fun _ _ _ h => h) (Or.inr ⟨by rfl, rfl⟩) (by assumption) ?_
        (try simp only [Act.put, List.setIfInBounds_toArray, List.set_cons_zero, List.set_cons_succ])
        refine takeH (i := 12) (v := ?_) (some 26) rfl rfl (by kernel_rfl) (by kernel_rfl) (by kernel_rfl) (fun _ _ _ h => h) (Or.inl ⟨by rfl, ?_⟩) (by assumption) ?_
        rotate_left
        · intro w hSw
          (try dsimp only at hSw)
          go_simp
          (try (with_reducible rfl))
        (try simp only [Act.put, List.setIfInBounds_toArray, List.set_cons_zero, List.set_cons_succ])
        refine wpAnyH_done (by kernel_rfl) ?_ _
        have HL := Lib.hid (below_next Hd0.out hbw)
        clear c0 c1 c2 c3 c4 x0 x1 x2 x3 x4 x5 x6 x7 x8
        obtain ⟨⟨c0, c1, c2, c3, c4⟩, -⟩ := HS.out _ HL.out
        go_wp2
        go_roundg (m + 1 - (i + 1))
        case measure => omega
        case rel => exact ⟨i + 1, rfl, by omega, by go_num, Lib.hid (HF.out.2 (by first | exact E.out | rw [E.out])), Lib.hid (below_next hb.out HL.out)⟩
    · obtain rfl : i = m := by omega
      have HBz : Hid (Below w.heap.size w wr) := Lib.hid (below_next hb0.out hb.out)
      obtain ⟨z0, z1, z2, z3, z4, z5, z6, z7, z8, f0, f1, f2, f3, f4, f5, f6, f7, f8⟩ := HZ.out wr hb.out
      go_wp2
      (try simp only [Exit.inBlock, Exit.then])
      refine bodyPost_ret (by simp [results, Try.results52, asAddr, go_sem, z0, z1, z2, z3, z4, z5, z6, z7, z8]; rfl) rfl ?_
      exact tellsNone (find_end hf.out (by rw [hm.out]; exact Nat.le_refl _)) (below_nine HBz.out (by rw [HG.out]; exact Nat.le_succ _) _ _ _ _ _ _ _ _ _)
set_option maxHeartbeats 4000000 in
theorem rvoted_calls (w : World) (A B : Option Addr) (cA k cB : Nat) (y : Rl) (h : IRow w A y.L) (hlo : 0 ≤ y.low ∧ y.low ≤ 1073741824) (hlen : y.L.length ≤ 1000) (kind seq frm : Int) :
    Calls Try.prog 54 #[.agg #[.int .i64 y.n, .int .i64 y.view, .int .i64 y.low, .slice A y.L.length cA, .slice B k cB], .int .i64 kind, .int .i64 seq, .int .i64 frm] w (TellsItem w (y.voted kind seq frm)) := by
  have H := Lib.hid h
  obtain ⟨h0, h1⟩ := hlo
  obtain ⟨m, hm⟩ : ∃ m, Hid (y.L.length = m) := ⟨_, Lib.hid rfl⟩
  have HP : Hid (y.voted kind seq frm = y.L.find? (fun x => decide (y.within seq) && y.here x kind seq && decide (x.frm = frm))) := Lib.hid rfl
  obtain ⟨p, hp⟩ : ∃ p : It → Bool, p = (fun x => decide (y.within seq) && y.here x kind seq && decide (x.frm = frm)) := ⟨_, rfl⟩
  rw [← hp] at HP
  have HPP : Hid (∀ x, p x = (fun x => decide (y.within seq) && y.here x kind seq && decide (x.frm = frm)) x) := Lib.hid fun x => by rw [hp]
  have HW : Hid (y.within seq ↔ y.low < seq ∧ seq ≤ y.low + 8) := Lib.hid Iff.rfl
  rw [hm.out] at hlen ⊢
  rw [HP.out]
  clear h hp
  obtain ⟨n, hn⟩ : ∃ n, Hid (y.n = n) := ⟨_, Lib.hid rfl⟩
  obtain ⟨v, hv⟩ : ∃ v, Hid (y.view = v) := ⟨_, Lib.hid rfl⟩
  obtain ⟨lo, hl⟩ : ∃ lo, Hid (y.low = lo) := ⟨_, Lib.hid rfl⟩
  rw [hl.out] at h0 h1 HW
  rw [hn.out, hv.out, hl.out]
  have HWc := Lib.hid (fun w => rwithin_calls w n v lo A B m cA k cB seq h0 h1)
  have HHc := Lib.hid (fun (x : It) (kd : Int) w => rhere_calls w n v lo A B m cA k cB x kd seq)
  clear h0 h1
  go_enter Try.func54, Try.ntmps54
  go_upto_region 1 with (fail)
  have hb0 : Hid (Below w.heap.size w ((w.alloc (.cells #[.int .i64 n, .int .i64 v, .int .i64 lo, .slice A m cA, .slice B k cB] 65)).alloc (.cells #[.int .i64 0, .int .i64 0, .int .i64 0, .int .i64 0, .string ⟨#[]⟩, .string ⟨#[]⟩, .int .i64 0, .string ⟨#[]⟩, .string ⟨#[]⟩] 106))) := Lib.hid (((Below.refl _ _).alloc (Nat.le_refl _) _).alloc (by simp) _)
  have B1 : Hid (Blk ((w.alloc (.cells #[.int .i64 n, .int .i64 v, .int .i64 lo, .slice A m cA, .slice B k cB] 65)).alloc (.cells #[.int .i64 0, .int .i64 0, .int .i64 0, .int .i64 0, .string ⟨#[]⟩, .string ⟨#[]⟩, .int .i64 0, .string ⟨#[]⟩, .string ⟨#[]⟩] 106)) w.heap.size 65 #[.int .i64 n, .int .i64 v, .int .i64 lo, .slice A m cA, .slice B k cB]) := Lib.hid ((Blk.new _ _ _).alloc _)
  have B2 : Hid (Blk ((w.alloc (.cells #[.int .i64 n, .int .i64 v, .int .i64 lo, .slice A m cA, .slice B k cB] 65)).alloc (.cells #[.int .i64 0, .int .i64 0, .int .i64 0, .int .i64 0, .string ⟨#[]⟩, .string ⟨#[]⟩, .int .i64 0, .string ⟨#[]⟩, .string ⟨#[]⟩] 106)) (w.heap.size + 1) 106 #[.int .i64 0, .int .i64 0, .int .i64 0, .int .i64 0, .string ⟨#[]⟩, .string ⟨#[]⟩, .int .i64 0, .string ⟨#[]⟩, .string ⟨#[]⟩]) := Lib.hid (by have := Blk.new (w.alloc (.cells #[.int .i64 n, .int .i64 v, .int .i64 lo, .slice A m cA, .slice B k cB] 65)) 106 #[.int .i64 0, .int .i64 0, .int .i64 0, .int .i64 0, .string ⟨#[]⟩, .string ⟨#[]⟩, .int .i64 0, .string ⟨#[]⟩, .string ⟨#[]⟩]; simpa using this)
  obtain ⟨g1, hg1⟩ : ∃ g1, w.heap.size = g1 := ⟨_, rfl⟩
  have HG := Lib.hid hg1
  rw [hg1] at B1 B2 ⊢
  clear hg1
  generalize World.alloc (World.alloc w _) _ = wy at hb0 B1 B2 ⊢
  have HX : Hid (∀ wx : World, Below wy.heap.size wy wx → (wx.cell? ⟨g1, 0, none⟩ = some (.int .i64 n) ∧ wx.cell? ⟨g1, 1, none⟩ = some (.int .i64 v) ∧ wx.cell? ⟨g1, 2, none⟩ = some (.int .i64 lo) ∧ wx.cell? ⟨g1, 3, none⟩ = some (.slice A m cA) ∧ wx.cell? ⟨g1, 4, none⟩ = some (.slice B k cB))) := Lib.hid fun wx hb => by
    have b1 := B1.out.below hb B1.out.lt
    exact ⟨b1.cell 0, b1.cell 1, b1.cell 2, b1.cell 3, b1.cell 4⟩
  have HZ : Hid (∀ wx : World, Below wy.heap.size wy wx → (wx.cell? ⟨g1 + 1, 0, none⟩ = some (.int .i64 0) ∧ wx.cell? ⟨g1 + 1, 1, none⟩ = some (.int .i64 0) ∧ wx.cell? ⟨g1 + 1, 2, none⟩ = some (.int .i64 0) ∧ wx.cell? ⟨g1 + 1, 3, none⟩ = some (.int .i64 0) ∧ wx.cell? ⟨g1 + 1, 4, none⟩ = some (.string ⟨#[]⟩) ∧ wx.cell? ⟨g1 + 1, 5, none⟩ = some (.string ⟨#[]⟩) ∧ wx.cell? ⟨g1 + 1, 6, none⟩ = some (.int .i64 0) ∧ wx.cell? ⟨g1 + 1, 7, none⟩ = some (.string ⟨#[]⟩) ∧ wx.cell? ⟨g1 + 1, 8, none⟩ = some (.string ⟨#[]⟩) ∧ wx.frozen? ⟨g1 + 1, 0, none⟩ = false ∧ wx.frozen? ⟨g1 + 1, 1, none⟩ = false ∧ wx.frozen? ⟨g1 + 1, 2, none⟩ = false ∧ wx.frozen? ⟨g1 + 1, 3, none⟩ = false ∧ wx.frozen? ⟨g1 + 1, 4, none⟩ = false ∧ wx.frozen? ⟨g1 + 1, 5, none⟩ = false ∧ wx.frozen? ⟨g1 + 1, 6, none⟩ = false ∧ wx.frozen? ⟨g1 + 1, 7, none⟩ = false ∧ wx.frozen? ⟨g1 + 1, 8, none⟩ = false)) := Lib.hid fun wx hb => by
    have b2 := B2.out.below hb B2.out.lt
    exact ⟨b2.cell 0, b2.cell 1, b2.cell 2, b2.cell 3, b2.cell 4, b2.cell 5, b2.cell 6, b2.cell 7, b2.cell 8, b2.frozen 0, b2.frozen 1, b2.frozen 2, b2.frozen 3, b2.frozen 4, b2.frozen 5, b2.frozen 6, b2.frozen 7, b2.frozen 8⟩
  go_wp2
  go_loopg [10] (m + 1) (fun gk s wr => ∃ i : Nat, gk = m + 1 - i ∧ i ≤ m ∧ s = .int .i64 (i : Int) ∧ Hid (y.L.find? p = (y.L.drop i).find? p) ∧ Hid (Below wy.heap.size wy wr))
  case atStart => exact ⟨0, rfl, Nat.zero_le _, rfl, Lib.hid rfl, Lib.hid (Below.refl _ _)⟩
  case round =>
    obtain ⟨i, rfl, hi, rfl, hf, hb⟩ := hrel
    have i0 : (0 : Int) ≤ (i : Int) := by omega
    obtain ⟨c0, c1, c2, c3, c4⟩ := HX.out wr hb.out
    by_cases hlt : i < m
    · have hltI : (i : Int) < (m : Int) := by omega
      obtain ⟨b, o, rfl, hcc⟩ := H.out.cells (i := i) (by rw [hm.out]; exact hlt)
      have HF := Lib.hid (find_at hf.out (by rw [hm.out]; exact hlt))
      generalize y.L.getD i It.none = x at hcc HF
      have HI : Hid (∀ wx : World, Below wr.heap.size wr wx → (wx.cell? ⟨b, o + i * 9, none⟩ = some (.int .i64 x.kind) ∧ wx.cell? ⟨b, o + i * 9 + 1, none⟩ = some (.int .i64 x.frm) ∧ wx.cell? ⟨b, o + i * 9 + 2, none⟩ = some (.int .i64 x.view) ∧ wx.cell? ⟨b, o + i * 9 + 3, none⟩ = some (.int .i64 x.seq) ∧ wx.cell? ⟨b, o + i * 9 + 4, none⟩ = some (.string x.digest) ∧ wx.cell? ⟨b, o + i * 9 + 5, none⟩ = some (.string x.batch) ∧ wx.cell? ⟨b, o + i * 9 + 6, none⟩ = some (.int .i64 x.m.frm) ∧ wx.cell? ⟨b, o + i * 9 + 7, none⟩ = some (.string x.m.body) ∧ wx.cell? ⟨b, o + i * 9 + 8, none⟩ = some (.string x.m.sig))) := Lib.hid fun wx hx => by
        have hxx := below_next (below_next hb0.out hb.out) hx
        exact ⟨hcc wx hxx 0 (by omega), hcc wx hxx 1 (by omega), hcc wx hxx 2 (by omega), hcc wx hxx 3 (by omega), hcc wx hxx 4 (by omega), hcc wx hxx 5 (by omega), hcc wx hxx 6 (by omega), hcc wx hxx 7 (by omega), hcc wx hxx 8 (by omega)⟩
      have HS : Hid (∀ wx : World, Below wr.heap.size wr wx → (wx.cell? ⟨g1, 0, none⟩ = some (.int .i64 n) ∧ wx.cell? ⟨g1, 1, none⟩ = some (.int .i64 v) ∧ wx.cell? ⟨g1, 2, none⟩ = some (.int .i64 lo) ∧ wx.cell? ⟨g1, 3, none⟩ = some (.slice (some ⟨b, o, none⟩) m cA) ∧ wx.cell? ⟨g1, 4, none⟩ = some (.slice B k cB)) ∧ (wx.cell? ⟨b, o + i * 9, none⟩ = some (.int .i64 x.kind) ∧ wx.cell? ⟨b, o + i * 9 + 1, none⟩ = some (.int .i64 x.frm) ∧ wx.cell? ⟨b, o + i * 9 + 2, none⟩ = some (.int .i64 x.view) ∧ wx.cell? ⟨b, o + i * 9 + 3, none⟩ = some (.int .i64 x.seq) ∧ wx.cell? ⟨b, o + i * 9 + 4, none⟩ = some (.string x.digest) ∧ wx.cell? ⟨b, o + i * 9 + 5, none⟩ = some (.string x.batch) ∧ wx.cell? ⟨b, o + i * 9 + 6, none⟩ = some (.int .i64 x.m.frm) ∧ wx.cell? ⟨b, o + i * 9 + 7, none⟩ = some (.string x.m.body) ∧ wx.cell? ⟨b, o + i * 9 + 8, none⟩ = some (.string x.m.sig))) := Lib.hid fun wx hx => ⟨HX.out wx (below_next hb.out hx), HI.out wx hx⟩
      clear hcc
      have Hd0 : Hid (Below wr.heap.size wr wr.drew) := Lib.hid (Below.refl _ _).drew
      obtain ⟨⟨c0, c1, c2, c3, c4⟩, x0, x1, x2, x3, x4, x5, x6, x7, x8⟩ := HS.out wr (Below.refl _ _)
      go_upto_region 4 with (fail)
      by_cases hw : lo < seq ∧ seq ≤ lo + 8
      · have HWx : Hid (∀ w, _) := HWc
        rw [decide_eq_true hw] at HWx
        have HHx := Lib.hid (HHc.out x kind)
        obtain ⟨hh, HHB⟩ : ∃ hh, Hid ((decide (x.kind = kind) && decide (x.view = v) && decide (x.seq = seq)) = hh) := ⟨_, Lib.hid rfl⟩
        rw [HHB.out] at HHx
        have E0 : Hid (p x = (hh && decide (x.frm = frm))) := Lib.hid (by rw [HPP.out, ← HHB.out, ← hv.out]; show (decide (y.within seq) && y.here x kind seq && _) = _; rw [decide_eq_true (HW.out.2 hw), Bool.true_and]; rfl)
        clear hw HWc HHc
        cases hh with
        | true =>
          by_cases hfr : x.frm = frm
          · have E : Hid (p x = true) := Lib.hid (by rw [E0.out, decide_eq_true hfr]; rfl)
            have hfB : (x.frm == frm) = true := by simpa using hfr
            clear hfr
            go_region_held3 (fun w' => (w'.cell? ⟨g1, 0, none⟩ = some (.int .i64 n) ∧ w'.cell? ⟨g1, 1, none⟩ = some (.int .i64 v) ∧ w'.cell? ⟨g1, 2, none⟩ = some (.int .i64 lo) ∧ w'.cell? ⟨g1, 3, none⟩ = some (.slice (some ⟨b, o, none⟩) m cA) ∧ w'.cell? ⟨g1, 4, none⟩ = some (.slice B k cB)) ∧ (w'.cell? ⟨b, o + i * 9, none⟩ = some (.int .i64 x.kind) ∧ w'.cell? ⟨b, o + i * 9 + 1, none⟩ = some (.int .i64 x.frm) ∧ w'.cell? ⟨b, o + i * 9 + 2, none⟩ = some (.int .i64 x.view) ∧ w'.cell? ⟨b, o + i * 9 + 3, none⟩ = some (.int .i64 x.seq) ∧ w'.cell? ⟨b, o + i * 9 + 4, none⟩ = some (.string x.digest) ∧ w'.cell? ⟨b, o + i * 9 + 5, none⟩ = some (.string x.batch) ∧ w'.cell? ⟨b, o + i * 9 + 6, none⟩ = some (.int .i64 x.m.frm) ∧ w'.cell? ⟨b, o + i * 9 + 7, none⟩ = some (.string x.m.body) ∧ w'.cell? ⟨b, o + i * 9 + 8, none⟩ = some (.string x.m.sig)))
              (first | exact HS.out _ Hd0.out | exact HS.out _ (below_next Hd0.out hbw) | exact HS.out _ (below_next (below_next Hd0.out hbw) hbh))
              (first
          | (go_at_call 51; (with_reducible refine (HWx.out _).mono ?_); rintro e ww ⟨rfl, hbw⟩)
          | (go_at_call 58; (with_reducible refine (HHx.out _).mono ?_); rintro e wh ⟨rfl, hbh⟩))
            have HL := Lib.hid (below_next (below_next Hd0.out hbw) hbh)
            clear c0 c1 c2 c3 c4 x0 x1 x2 x3 x4 x5 x6 x7 x8
            have HBz : Hid (Below w.heap.size w wh) := Lib.hid (below_next (below_next hb0.out hb.out) HL.out)
            obtain ⟨⟨c0, c1, c2, c3, c4⟩, x0, x1, x2, x3, x4, x5, x6, x7, x8⟩ := HS.out _ HL.out
            obtain ⟨z0, z1, z2, z3, z4, z5, z6, z7, z8, f0, f1, f2, f3, f4, f5, f6, f7, f8⟩ := HZ.out _ (below_next hb.out HL.out)
            go_wp2
            (try simp only [Exit.inBlock, Exit.then])
            refine bodyPost_ret (by simp [results, Try.results54, asAddr, go_sem, z0, z1, z2, z3, z4, z5, z6, z7, z8]; rfl) rfl ?_
            exact tellsItem (HF.out.1 (by first | exact E.out | rw [E.out])) (below_nine HBz.out (by rw [HG.out]; exact Nat.le_succ _) _ _ _ _ _ _ _ _ _)
          · have E : Hid (p x = false) := Lib.hid (by rw [E0.out, decide_eq_false hfr]; rfl)
            have hfB : (x.frm == frm) = false := by simpa using hfr
            clear hfr
            go_region_held3 (fun w' => (w'.cell? ⟨g1, 0, none⟩ = some (.int .i64 n) ∧ w'.cell? ⟨g1, 1, none⟩ = some (.int .i64 v) ∧ w'.cell? ⟨g1, 2, none⟩ = some (.int .i64 lo) ∧ w'.cell? ⟨g1, 3, none⟩ = some (.slice (some ⟨b, o, none⟩) m cA) ∧ w'.cell? ⟨g1, 4, none⟩ = some (.slice B k cB)) ∧ (w'.cell? ⟨b, o + i * 9, none⟩ = some (.int .i64 x.kind) ∧ w'.cell? ⟨b, o + i * 9 + 1, none⟩ = some (.int .i64 x.frm) ∧ w'.cell? ⟨b, o + i * 9 + 2, none⟩ = some (.int .i64 x.view) ∧ w'.cell? ⟨b, o + i * 9 + 3, none⟩ = some (.int .i64 x.seq) ∧ w'.cell? ⟨b, o + i * 9 + 4, none⟩ = some (.string x.digest) ∧ w'.cell? ⟨b, o + i * 9 + 5, none⟩ = some (.string x.batch) ∧ w'.cell? ⟨b, o + i * 9 + 6, none⟩ = some (.int .i64 x.m.frm) ∧ w'.cell? ⟨b, o + i * 9 + 7, none⟩ = some (.string x.m.body) ∧ w'.cell? ⟨b, o + i * 9 + 8, none⟩ = some (.string x.m.sig)))
              (first | exact HS.out _ Hd0.out | exact HS.out _ (below_next Hd0.out hbw) | exact HS.out _ (below_next (below_next Hd0.out hbw) hbh))
              (first
          | (go_at_call 51; (with_reducible refine (HWx.out _).mono ?_); rintro e ww ⟨rfl, hbw⟩)
          | (go_at_call 58; (with_reducible refine (HHx.out _).mono ?_); rintro e wh ⟨rfl, hbh⟩))
            have HL := Lib.hid (below_next (below_next Hd0.out hbw) hbh)
            clear c0 c1 c2 c3 c4 x0 x1 x2 x3 x4 x5 x6 x7 x8
            obtain ⟨⟨c0, c1, c2, c3, c4⟩, -⟩ := HS.out _ HL.out
            go_wp2
            go_roundg (m + 1 - (i + 1))
            case measure => omega
            case rel => exact ⟨i + 1, rfl, by omega, by go_num, Lib.hid (HF.out.2 (by first | exact E.out | rw [E.out])), Lib.hid (below_next hb.out HL.out)⟩
        | false =>
          have E : Hid (p x = false) := Lib.hid (by rw [E0.out]; rfl)
          refine wp_region_held_drew (S := (fun w' => (w'.cell? ⟨g1, 0, none⟩ = some (.int .i64 n) ∧ w'.cell? ⟨g1, 1, none⟩ = some (.int .i64 v) ∧ w'.cell? ⟨g1, 2, none⟩ = some (.int .i64 lo) ∧ w'.cell? ⟨g1, 3, none⟩ = some (.slice (some ⟨b, o, none⟩) m cA) ∧ w'.cell? ⟨g1, 4, none⟩ = some (.slice B k cB)) ∧ (w'.cell? ⟨b, o + i * 9, none⟩ = some (.int .i64 x.kind) ∧ w'.cell? ⟨b, o + i * 9 + 1, none⟩ = some (.int .i64 x.frm) ∧ w'.cell? ⟨b, o + i * 9 + 2, none⟩ = some (.int .i64 x.view) ∧ w'.cell? ⟨b, o + i * 9 + 3, none⟩ = some (.int .i64 x.seq) ∧ w'.cell? ⟨b, o + i * 9 + 4, none⟩ = some (.string x.digest) ∧ w'.cell? ⟨b, o + i * 9 + 5, none⟩ = some (.string x.batch) ∧ w'.cell? ⟨b, o + i * 9 + 6, none⟩ = some (.int .i64 x.m.frm) ∧ w'.cell? ⟨b, o + i * 9 + 7, none⟩ = some (.string x.m.body) ∧ w'.cell? ⟨b, o + i * 9 + 8, none⟩ = some (.string x.m.sig)))) (by kernel_rfl) (HS.out _ Hd0.out) (fun hHeld => ?_)
          refine takeH (i := 0) (v := ?_) (some 18) rfl rfl (by kernel_rfl) (by kernel_rfl) (by kernel_rfl) (fun _ _ _ h => h) (Or.inl ⟨by rfl, ?_⟩) (by assumption) ?_
          rotate_left
          · intro w hSw
            (try dsimp only at hSw)
            go_simp
            (try (with_reducible rfl))
          (try simp only [Act.put, List.setIfInBounds_toArray, List.set_cons_zero, List.set_cons_succ])
          refine takeH (i := 1) (v := ?_) (some 19) rfl rfl (by kernel_rfl) (by kernel_rfl) (by kernel_rfl) (fun _ _ _ h => h) (Or.inl ⟨by rfl, ?_⟩) (by assumption) ?_
          rotate_left
          · intro w hSw
            (try dsimp only at hSw)
            go_simp
            (try (with_reducible rfl))
          (try simp only [Act.put, List.setIfInBounds_toArray, List.set_cons_zero, List.set_cons_succ])
          refine callH (i := 2) (some 20) (by kernel_rfl) rfl rfl (by rfl) (fun K hK => ?_)
          go_simp
          (go_at_call 51; (with_reducible refine (HWx.out _).mono ?_); rintro e ww ⟨rfl, hbw⟩)
          refine hK.out _ _ (HS.out _ (below_next Hd0.out hbw)) (fun hHeld => ?_)
          clear hK K
          (try simp only [Act.put, List.setIfInBounds_toArray, List.set_cons_zero, List.set_cons_succ])
          refine takeH (i := 3) (v := ?_) (some 21) rfl rfl (by kernel_rfl) (by kernel_rfl) (by kernel_rfl) (fun _ _ _ h => h) (Or.inl ⟨by rfl, ?_⟩) (by assumption) ?_
          rotate_left
          · intro w hSw
            (try dsimp only at hSw)
            go_simp
            (try (with_reducible rfl))
          (try simp only [Act.put, List.setIfInBounds_toArray, List.set_cons_zero, List.set_cons_succ])
          refine takeH (i := 4) (v := ?_) (some 22) rfl rfl (by kernel_rfl) (by kernel_rfl) (by kernel_rfl) (fun _ _ _ h => h) (Or.inl ⟨by rfl, ?_⟩) (by assumption) ?_
          rotate_left
          · intro w hSw
            (try dsimp only at hSw)
            go_simp
            (try (with_reducible rfl))
          (try simp only [Act.put, List.setIfInBounds_toArray, List.set_cons_zero, List.set_cons_succ])
          refine takeH (i := 5) (v := ?_) (some 23) rfl rfl (by kernel_rfl) (by kernel_rfl) (by kernel_rfl) (fun _ _ _ h => h) (Or.inl ⟨by rfl, ?_⟩) (by assumption) ?_
          rotate_left
          · intro w hSw
            (try dsimp only at hSw)
            go_simp
            (try (with_reducible rfl))
          (try simp only [Act.put, List.setIfInBounds_toArray, List.set_cons_zero, List.set_cons_succ])
          refine takeH (i := 6) (v := ?_) (some 24) rfl rfl (by kernel_rfl) (by kernel_rfl) (by kernel_rfl) (fun _ _ _ h => h) (Or.inl ⟨by rfl, ?_⟩) (by assumption) ?_
          rotate_left
          · intro w hSw
            (try dsimp only at hSw)
            go_simp
            (try (with_reducible rfl))
          (try simp only [Act.put, List.setIfInBounds_toArray, List.set_cons_zero, List.set_cons_succ])
          refine takeH (i := 7) (v := ?_) (some 25) rfl rfl (by kernel_rfl) (by kernel_rfl) (by kernel_rfl) (fun _ _ _ h => h) (Or.inl ⟨by rfl, ?_⟩) (by assumption) ?_
          rotate_left
          · intro w hSw
            (try dsimp only at hSw)
            go_simp
            (try (with_reducible rfl))
          (try simp only [Act.put, List.setIfInBounds_toArray, List.set_cons_zero, List.set_cons_succ])
          refine takeH (i := 8) (v := ?_) (some 26) rfl rfl (by kernel_rfl) (by kernel_rfl) (by kernel_rfl) (fun _ _ _ h => h) (Or.inl ⟨by rfl, ?_⟩) (by assumption) ?_
          rotate_left
          · intro w hSw
            (try dsimp only at hSw)
            go_simp
            (try (with_reducible rfl))
          (try simp only [Act.put, List.setIfInBounds_toArray, List.set_cons_zero, List.set_cons_succ])
          refine takeH (i := 9) (v := ?_) (some 27) rfl rfl (by kernel_rfl) (by kernel_rfl) (by kernel_rfl) (fun _ _ _ h => h) (Or.inl ⟨by rfl, ?_⟩) (by assumption) ?_
          rotate_left
          · intro w hSw
            (try dsimp only at hSw)
            go_simp
            (try (with_reducible rfl))
          (try simp only [Act.put, List.setIfInBounds_toArray, List.set_cons_zero, List.set_cons_succ])
          refine takeH (i := 10) (v := ?_) (some 28) rfl rfl (by kernel_rfl) (by kernel_rfl) (by kernel_rfl) (fun _ _ _ h => h) (Or.inl ⟨by rfl, ?_⟩) (by assumption) ?_
          rotate_left
          · intro w hSw
            (try dsimp only at hSw)
            go_simp
            (try (with_reducible rfl))
          (try simp only [Act.put, List.setIfInBounds_toArray, List.set_cons_zero, List.set_cons_succ])
          refine takeH (i := 11) (v := ?_) (some 29) rfl rfl (by kernel_rfl) (by kernel_rfl) (by kernel_rfl) (fun _ _ _ h => h) (Or.inl ⟨by rfl, ?_⟩) (by assumption) ?_
          rotate_left
          · intro w hSw
            (try dsimp only at hSw)
            go_simp
            (try (with_reducible rfl))
          (try simp only [Act.put, List.setIfInBounds_toArray, List.set_cons_zero, List.set_cons_succ])
          refine callH (i := 12) (some 30) (by kernel_rfl) rfl rfl (by rfl) (fun K hK => ?_)
          go_simp
          (go_at_call 58; (with_reducible refine (HHx.out _).mono ?_); rintro e wh ⟨rfl, hbh⟩)
          refine hK.out _ _ (HS.out _ (below_next (below_next Hd0.out hbw) hbh)) (fun hHeld => ?_)
          clear hK K
          (try simp only [Act.put, List.setIfInBounds_toArray, List.set_cons_zero, List.set_cons_succ])
          refine takeH (i := 13) (v := ?_) (some 31) rfl rfl (by kernel_rfl) (by kernel_rfl) (by kernel_rfl) (fun _ _ _ h => h) (Or.inl ⟨by rfl, ?_⟩) (by assumption) ?_
          rotate_left
          · intro w hSw
            (try dsimp only at hSw)
            go_simp
            (try (with_reducible rfl))
          (try simp only [Act.put, List.setIfInBounds_toArray, List.set_cons_zero, List.set_cons_succ])
          refine takeH (i := 14) (v := ?_) (some 32) rfl rfl (by kernel_rfl) (by kernel_rfl) (by kernel_rfl) (fun _ _ _ h => h) (Or.inl ⟨by rfl, ?_⟩) (by assumption) ?_
          rotate_left
          · intro w hSw
            (try dsimp only at hSw)
            go_simp
            (try (with_reducible rfl))
          (try simp only [Act.put, List.setIfInBounds_toArray, List.set_cons_zero, List.set_cons_succ])
          refine takeH (i := 15) (v := undef) (some 33) rfl rfl (by kernel_rfl) (by kernel_rfl) (by kernel_rfl) (fun _ _ _ h => h) (Or.inr ⟨by rfl, rfl⟩) (by assumption) ?_
          (try simp only [Act.put, List.setIfInBounds_toArray, List.set_cons_zero, List.set_cons_succ])
          refine takeH (i := 16) (v := undef) (some 34) rfl rfl (by kernel_rfl) (by kernel_rfl) (by kernel_rfl) (fun _ _ _ h => h) (Or.inr ⟨by rfl, rfl⟩) (by assumption) ?_
          (try simp only [Act.put, List.setIfInBounds_toArray, List.set_cons_zero, List.set_cons_succ])
          refine takeH (i := 17) (v := undef) (some 35) rfl rfl (by kernel_rfl) (by kernel_rfl) (by kernel_rfl) (fun _ _ _ h => h) (Or.inr ⟨by rfl, rfl⟩) (by assumption) ?_
          (try simp only [Act.put, List.setIfInBounds_toArray, List.set_cons_zero, List.set_cons_succ])
          refine takeH (i := 18) (v := undef) (some 36) rfl rfl (by kernel_rfl) (by kernel_rfl) (by kernel_rfl) (fun _ _ _ h => h) (Or.inr ⟨by rfl, rfl⟩) (by assumption) ?_
          (try simp only [Act.put, List.setIfInBounds_toArray, List.set_cons_zero, List.set_cons_succ])
          refine takeH (i := 19) (v := undef) (some 37) rfl rfl (by kernel_rfl) (by kernel_rfl) (by kernel_rfl) (fun _ _ _ h => h) (Or.inr ⟨by rfl, rfl⟩) (by assumption) ?_
          (try simp only [Act.put, List.setIfInBounds_toArray, List.set_cons_zero, List.set_cons_succ])
          refine takeH (i := 20) (v := undef) (some 38) rfl rfl (by kernel_rfl) (by kernel_rfl) (by kernel_rfl) (fun _ _ _ h => h) (Or.inr ⟨by rfl, rfl⟩) (by assumption) ?_
          (try simp only [Act.put, List.setIfInBounds_toArray, List.set_cons_zero, List.set_cons_succ])
          refine takeH (i := 21) (v := undef) (some 39) rfl rfl (by kernel_rfl) (by kernel_rfl) (by kernel_rfl) (fun _ _ _ h => h) (Or.inr ⟨by rfl, rfl⟩) (by assumption) ?_
          (try simp only [Act.put, List.setIfInBounds_toArray, List.set_cons_zero, List.set_cons_succ])
          refine takeH (i := 22) (v := undef) (some 40) rfl rfl (by kernel_rfl) (by kernel_rfl) (by kernel_rfl) (fun _ _ _ h => h) (Or.inr ⟨by rfl, rfl⟩) (by assumption) ?_
          (try simp only [Act.put, List.setIfInBounds_toArray, List.set_cons_zero, List.set_cons_succ])
          refine takeH (i := 23) (v := ?_) (some 41) rfl rfl (by kernel_rfl) (by kernel_rfl) (by kernel_rfl) (fun _ _ _ h => h) (Or.inl ⟨by rfl, ?_⟩) (by assumption) ?_
          rotate_left
          · intro w hSw
            (try dsimp only at hSw)
            go_simp
            (try (with_reducible rfl))
          (try simp only [Act.put, List.setIfInBounds_toArray, List.set_cons_zero, List.set_cons_succ])
          refine wpAnyH_done (by kernel_rfl) ?_ _
          have HL := Lib.hid (below_next (below_next Hd0.out hbw) hbh)
          clear c0 c1 c2 c3 c4 x0 x1 x2 x3 x4 x5 x6 x7 x8
          obtain ⟨⟨c0, c1, c2, c3, c4⟩, -⟩ := HS.out _ HL.out
          go_wp2
          go_roundg (m + 1 - (i + 1))
          case measure => omega
          case rel => exact ⟨i + 1, rfl, by omega, by go_num, Lib.hid (HF.out.2 (by first | exact E.out | rw [E.out])), Lib.hid (below_next hb.out HL.out)⟩
      · have HWx : Hid (∀ w, _) := HWc
        rw [decide_eq_false hw] at HWx
        have E : Hid (p x = false) := Lib.hid (by rw [HPP.out]; show (decide (y.within seq) && _ && _) = _; rw [decide_eq_false (fun hh => hw (HW.out.1 hh)), Bool.false_and, Bool.false_and])
        clear hw HWc HHc
        refine wp_region_held_drew (S := (fun w' => (w'.cell? ⟨g1, 0, none⟩ = some (.int .i64 n) ∧ w'.cell? ⟨g1, 1, none⟩ = some (.int .i64 v) ∧ w'.cell? ⟨g1, 2, none⟩ = some (.int .i64 lo) ∧ w'.cell? ⟨g1, 3, none⟩ = some (.slice (some ⟨b, o, none⟩) m cA) ∧ w'.cell? ⟨g1, 4, none⟩ = some (.slice B k cB)) ∧ (w'.cell? ⟨b, o + i * 9, none⟩ = some (.int .i64 x.kind) ∧ w'.cell? ⟨b, o + i * 9 + 1, none⟩ = some (.int .i64 x.frm) ∧ w'.cell? ⟨b, o + i * 9 + 2, none⟩ = some (.int .i64 x.view) ∧ w'.cell? ⟨b, o + i * 9 + 3, none⟩ = some (.int .i64 x.seq) ∧ w'.cell? ⟨b, o + i * 9 + 4, none⟩ = some (.string x.digest) ∧ w'.cell? ⟨b, o + i * 9 + 5, none⟩ = some (.string x.batch) ∧ w'.cell? ⟨b, o + i * 9 + 6, none⟩ = some (.int .i64 x.m.frm) ∧ w'.cell? ⟨b, o + i * 9 + 7, none⟩ = some (.string x.m.body) ∧ w'.cell? ⟨b, o + i * 9 + 8, none⟩ = some (.string x.m.sig)))) (by kernel_rfl) (HS.out _ Hd0.out) (fun hHeld => ?_)
        refine takeH (i := 0) (v := ?_) (some 18) rfl rfl (by kernel_rfl) (by kernel_rfl) (by kernel_rfl) (fun _ _ _ h => h) (Or.inl ⟨by rfl, ?_⟩) (by assumption) ?_
        rotate_left
        · intro w hSw
          (try dsimp only at hSw)
          go_simp
          (try (with_reducible rfl))
        (try simp only [Act.put, List.setIfInBounds_toArray, List.set_cons_zero, List.set_cons_succ])
        refine takeH (i := 1) (v := ?_) (some 19) rfl rfl (by kernel_rfl) (by kernel_rfl) (by kernel_rfl) (fun _ _ _ h => h) (Or.inl ⟨by rfl, ?_⟩) (by assumption) ?_
        rotate_left
        · intro w hSw
          (try dsimp only at hSw)
          go_simp
          (try (with_reducible rfl))
        (try simp only [Act.put, List.setIfInBounds_toArray, List.set_cons_zero, List.set_cons_succ])
        refine callH (i := 2) (some 20) (by kernel_rfl) rfl rfl (by rfl) (fun K hK => ?_)
        go_simp
        (go_at_call 51; (with_reducible refine (HWx.out _).mono ?_); rintro e ww ⟨rfl, hbw⟩)
        refine hK.out _ _ (HS.out _ (below_next Hd0.out hbw)) (fun hHeld => ?_)
        clear hK K
        (try simp only [Act.put, List.setIfInBounds_toArray, List.set_cons_zero, List.set_cons_succ])
        refine takeH (i := 3) (v := ?_) (some 21) rfl rfl (by kernel_rfl) (by kernel_rfl) (by kernel_rfl) (fun _ _ _ h => h) (Or.inl ⟨by rfl, ?_⟩) (by assumption) ?_
        rotate_left
        · intro w hSw
          (try dsimp only at hSw)
          go_simp
          (try (with_reducible rfl))
        (try simp only [Act.put, List.setIfInBounds_toArray, List.set_cons_zero, List.set_cons_succ])
        refine takeH (i := 4) (v := undef) (some 22) rfl rfl (by kernel_rfl) (by kernel_rfl) (by kernel_rfl) (fun _ _ _ h => h) (Or.inr ⟨by rfl, rfl⟩) (by assumption) ?_
        (try simp only [Act.put, List.setIfInBounds_toArray, List.set_cons_zero, List.set_cons_succ])
        refine takeH (i := 5) (v := undef) (some 23) rfl rfl (by kernel_rfl) (by kernel_rfl) (by kernel_rfl) (fun _ _ _ h => h) (Or.inr ⟨by rfl, rfl⟩) (by assumption) ?_
        (try simp only [Act.put, List.setIfInBounds_toArray, List.set_cons_zero, List.set_cons_succ])
        refine takeH (i := 6) (v := undef) (some 24) rfl rfl (by kernel_rfl) (by kernel_rfl) (by kernel_rfl) (fun _ _ _ h => h) (Or.inr ⟨by rfl, rfl⟩) (by assumption) ?_
        (try simp only [Act.put, List.setIfInBounds_toArray, List.set_cons_zero, List.set_cons_succ])
        refine takeH (i := 7) (v := undef) (some 25) rfl rfl (by kernel_rfl) (by kernel_rfl) (by kernel_rfl) (fun _ _ _ h => h) (Or.inr ⟨by rfl, rfl⟩) (by assumption) ?_
        (try simp only [Act.put, List.setIfInBounds_toArray, List.set_cons_zero, List.set_cons_succ])
        refine takeH (i := 8) (v := undef) (some 26) rfl rfl (by kernel_rfl) (by kernel_rfl) (by kernel_rfl) (fun _ _ _ h => h) (Or.inr ⟨by rfl, rfl⟩) (by assumption) ?_
        (try simp only [Act.put, List.setIfInBounds_toArray, List.set_cons_zero, List.set_cons_succ])
        refine takeH (i := 9) (v := undef) (some 27) rfl rfl (by kernel_rfl) (by kernel_rfl) (by kernel_rfl) (fun _ _ _ h => h) (Or.inr ⟨by rfl, rfl⟩) (by assumption) ?_
        (try simp only [Act.put, List.setIfInBounds_toArray, List.set_cons_zero, List.set_cons_succ])
        refine takeH (i := 10) (v := undef) (some 28) rfl rfl (by kernel_rfl) (by kernel_rfl) (by kernel_rfl) (fun _ _ _ h => h) (Or.inr ⟨by rfl, rfl⟩) (by assumption) ?_
        (try simp only [Act.put, List.setIfInBounds_toArray, List.set_cons_zero, List.set_cons_succ])
        refine takeH (i := 11) (v := undef) (some 29) rfl rfl (by kernel_rfl) (by kernel_rfl) (by kernel_rfl) (fun _ _ _ h => h) (Or.inr ⟨by rfl, rfl⟩) (by assumption) ?_
        (try simp only [Act.put, List.setIfInBounds_toArray, List.set_cons_zero, List.set_cons_succ])
        refine takeH (i := 12) (v := undef) (some 30) rfl rfl (by kernel_rfl) (by kernel_rfl) (by kernel_rfl) (fun _ _ _ h => h) (Or.inr ⟨by rfl, rfl⟩) (by assumption) ?_
        (try simp only [Act.put, List.setIfInBounds_toArray, List.set_cons_zero, List.set_cons_succ])
        refine takeH (i := 13) (v := ?_) (some 31) rfl rfl (by kernel_rfl) (by kernel_rfl) (by kernel_rfl) (fun _ _ _ h => h) (Or.inl ⟨by rfl, ?_⟩) (by assumption) ?_
        rotate_left
        · intro w hSw
          (try dsimp only at hSw)
          go_simp
          (try (with_reducible rfl))
        (try simp only [Act.put, List.setIfInBounds_toArray, List.set_cons_zero, List.set_cons_succ])
        refine takeH (i := 14) (v := ?_) (some 32) rfl rfl (by kernel_rfl) (by kernel_rfl) (by kernel_rfl) (fun _ _ _ h => h) (Or.inl ⟨by rfl, ?_⟩) (by assumption) ?_
        rotate_left
        · intro w hSw
          (try dsimp only at hSw)
          go_simp
          (try (with_reducible rfl))
        (try simp only [Act.put, List.setIfInBounds_toArray, List.set_cons_zero, List.set_cons_succ])
        refine takeH (i := 15) (v := undef) (some 33) rfl rfl (by kernel_rfl) (by kernel_rfl) (by kernel_rfl) (fun _ _ _ h => h) (Or.inr ⟨by rfl, rfl⟩) (by assumption) ?_
        (try simp only [Act.put, List.setIfInBounds_toArray, List.set_cons_zero, List.set_cons_succ])
        refine takeH (i := 16) (v := undef) (some 34) rfl rfl (by kernel_rfl) (by kernel_rfl) (by kernel_rfl) (fun _ _ _ h => h) (Or.inr ⟨by rfl, rfl⟩) (by assumption) ?_
        (try simp only [Act.put, List.setIfInBounds_toArray, List.set_cons_zero, List.set_cons_succ])
        refine takeH (i := 17) (v := undef) (some 35) rfl rfl (by kernel_rfl) (by kernel_rfl) (by kernel_rfl) (fun _ _ _ h => h) (Or.inr ⟨by rfl, rfl⟩) (by assumption) ?_
        (try simp only [Act.put, List.setIfInBounds_toArray, List.set_cons_zero, List.set_cons_succ])
        refine takeH (i := 18) (v := undef) (some 36) rfl rfl (by kernel_rfl) (by kernel_rfl) (by kernel_rfl) (fun _ _ _ h => h) (Or.inr ⟨by rfl, rfl⟩) (by assumption) ?_
        (try simp only [Act.put, List.setIfInBounds_toArray, List.set_cons_zero, List.set_cons_succ])
        refine takeH (i := 19) (v := undef) (some 37) rfl rfl (by kernel_rfl) (by kernel_rfl) (by kernel_rfl) (fun _ _ _ h => h) (Or.inr ⟨by rfl, rfl⟩) (by assumption) ?_
        (try simp only [Act.put, List.setIfInBounds_toArray, List.set_cons_zero, List.set_cons_succ])
        refine takeH (i := 20) (v := undef) (some 38) rfl rfl (by kernel_rfl) (by kernel_rfl) (by kernel_rfl) (fun _ _ _ h => h) (Or.inr ⟨by rfl, rfl⟩) (by assumption) ?_
        (try simp only [Act.put, List.setIfInBounds_toArray, List.set_cons_zero, List.set_cons_succ])
        refine takeH (i := 21) (v := undef) (some 39) rfl rfl (by kernel_rfl) (by kernel_rfl) (by kernel_rfl) (fun _ _ _ h => h) (Or.inr ⟨by rfl, rfl⟩) (by assumption) ?_
        (try simp only [Act.put, List.setIfInBounds_toArray, List.set_cons_zero, List.set_cons_succ])
        refine takeH (i := 22) (v := undef) (some 40) rfl rfl (by kernel_rfl) (by kernel_rfl) (by kernel_rfl) (fun _ _ _ h => h) (Or.inr ⟨by rfl, rfl⟩) (by assumption) ?_
        (try simp only [Act.put, List.setIfInBounds_toArray, List.set_cons_zero, List.set_cons_succ])
        refine takeH (i := 23) (v := ?_) (some 41) rfl rfl (by kernel_rfl) (by kernel_rfl) (by kernel_rfl) (fun _ _ _ h => h) (Or.inl ⟨by rfl, ?_⟩) (by assumption) ?_
        rotate_left
        · intro w hSw
          (try dsimp only at hSw)
          go_simp
          (try (with_reducible rfl))
        (try simp only [Act.put, List.setIfInBounds_toArray, List.set_cons_zero, List.set_cons_succ])
        refine wpAnyH_done (by kernel_rfl) ?_ _
        have HL := Lib.hid (below_next Hd0.out hbw)
        clear c0 c1 c2 c3 c4 x0 x1 x2 x3 x4 x5 x6 x7 x8
        obtain ⟨⟨c0, c1, c2, c3, c4⟩, -⟩ := HS.out _ HL.out
        go_wp2
        go_roundg (m + 1 - (i + 1))
        case measure => omega
        case rel => exact ⟨i + 1, rfl, by omega, by go_num, Lib.hid (HF.out.2 (by first | exact E.out | rw [E.out])), Lib.hid (below_next hb.out HL.out)⟩
    · obtain rfl : i = m := by omega
      have HBz : Hid (Below w.heap.size w wr) := Lib.hid (below_next hb0.out hb.out)
      obtain ⟨z0, z1, z2, z3, z4, z5, z6, z7, z8, f0, f1, f2, f3, f4, f5, f6, f7, f8⟩ := HZ.out wr hb.out
      go_wp2
      (try simp only [Exit.inBlock, Exit.then])
      refine bodyPost_ret (by simp [results, Try.results54, asAddr, go_sem, z0, z1, z2, z3, z4, z5, z6, z7, z8]; rfl) rfl ?_
      exact tellsNone (find_end hf.out (by rw [hm.out]; exact Nat.le_refl _)) (below_nine HBz.out (by rw [HG.out]; exact Nat.le_succ _) _ _ _ _ _ _ _ _ _)
end Go.Proofs.Ytedndjbhgbdpoaa