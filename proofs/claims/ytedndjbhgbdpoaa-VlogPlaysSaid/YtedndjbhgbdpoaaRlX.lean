/- The reference's Last (printed by genrl.py). -/
import Derived.Test.YtedndjbhgbdpoaaRlW
namespace Go.Proofs.Ytedndjbhgbdpoaa
open Go.RowKit
theorem rfind_at {p : It → Bool} {L : List It} {i : Nat} (h : L.reverse.find? p = (L.take (i + 1)).reverse.find? p) (hi : i < L.length) : (p (L.getD i It.none) = true → L.reverse.find? p = some (L.getD i It.none)) ∧ (p (L.getD i It.none) = false → L.reverse.find? p = (L.take i).reverse.find? p) := by
  have e : (L.take (i + 1)).reverse = L.getD i It.none :: (L.take i).reverse := by
    rw [List.take_succ_eq_append_getElem hi, List.reverse_append, List.getD_eq_getElem?_getD, List.getElem?_eq_getElem hi]; rfl
  rw [h, e]
  constructor
  · intro hp
    rw [List.find?_cons_of_pos hp]
  · intro hp
    rw [List.find?_cons_of_neg (by rw [hp]; decide)]
set_option maxHeartbeats 4000000 in
theorem rlast_calls (w : World) (A B : Option Addr) (cA k cB : Nat) (y : Rl) (h : IRow w A y.L) (hlen : y.L.length ≤ 1000) (frm : Int) :
    Calls Try.prog 55 #[.agg #[.int .i64 y.n, .int .i64 y.view, .int .i64 y.low, .slice A y.L.length cA, .slice B k cB], .int .i64 frm] w (TellsItem w (y.last frm)) := by
  have H := Lib.hid h
  obtain ⟨m, hm⟩ : ∃ m, Hid (y.L.length = m) := ⟨_, Lib.hid rfl⟩
  have HP : Hid (y.last frm = y.L.reverse.find? fun x => decide (x.kind = 5) && decide (x.frm = frm)) := Lib.hid rfl
  obtain ⟨p, hp⟩ : ∃ p : It → Bool, p = (fun x => decide (x.kind = 5) && decide (x.frm = frm)) := ⟨_, rfl⟩
  rw [← hp] at HP
  have HPP : Hid (∀ x, p x = (decide (x.kind = 5) && decide (x.frm = frm))) := Lib.hid fun x => by rw [hp]
  rw [hm.out] at hlen ⊢
  rw [HP.out]
  clear h hp
  obtain ⟨n, hn⟩ : ∃ n, Hid (y.n = n) := ⟨_, Lib.hid rfl⟩
  obtain ⟨v, hv⟩ : ∃ v, Hid (y.view = v) := ⟨_, Lib.hid rfl⟩
  obtain ⟨lo, hl⟩ : ∃ lo, Hid (y.low = lo) := ⟨_, Lib.hid rfl⟩
  rw [hn.out, hv.out, hl.out]
  have hwm : IntKind.i64.wrap ((m : Int) - 1) = (m : Int) - 1 := by rw [IntKind.wrap_i64]; omega
  go_enter Try.func55, Try.ntmps55
  go_upto_region 1 with (fail)
  have hb0 : Hid (Below w.heap.size w ((w.alloc (.cells #[.int .i64 n, .int .i64 v, .int .i64 lo, .slice A m cA, .slice B k cB] 65)).alloc (.cells #[.int .i64 0, .int .i64 0, .int .i64 0, .int .i64 0, .string ⟨#[]⟩, .string ⟨#[]⟩, .int .i64 0, .string ⟨#[]⟩, .string ⟨#[]⟩] 106))) := Lib.hid (((Below.refl _ _).alloc (Nat.le_refl _) _).alloc (by simp) _)
  have B1 : Hid (Blk ((w.alloc (.cells #[.int .i64 n, .int .i64 v, .int .i64 lo, .slice A m cA, .slice B k cB] 65)).alloc (.cells #[.int .i64 0, .int .i64 0, .int .i64 0, .int .i64 0, .string ⟨#[]⟩, .string ⟨#[]⟩, .int .i64 0, .string ⟨#[]⟩, .string ⟨#[]⟩] 106)) w.heap.size 65 #[.int .i64 n, .int .i64 v, .int .i64 lo, .slice A m cA, .slice B k cB]) := Lib.hid ((Blk.new _ _ _).alloc _)
  have B2 : Hid (Blk ((w.alloc (.cells #[.int .i64 n, .int .i64 v, .int .i64 lo, .slice A m cA, .slice B k cB] 65)).alloc (.cells #[.int .i64 0, .int .i64 0, .int .i64 0, .int .i64 0, .string ⟨#[]⟩, .string ⟨#[]⟩, .int .i64 0, .string ⟨#[]⟩, .string ⟨#[]⟩] 106)) (w.heap.size + 1) 106 #[.int .i64 0, .int .i64 0, .int .i64 0, .int .i64 0, .string ⟨#[]⟩, .string ⟨#[]⟩, .int .i64 0, .string ⟨#[]⟩, .string ⟨#[]⟩]) := Lib.hid (by have := Blk.new (w.alloc (.cells #[.int .i64 n, .int .i64 v, .int .i64 lo, .slice A m cA, .slice B k cB] 65)) 106 #[.int .i64 0, .int .i64 0, .int .i64 0, .int .i64 0, .string ⟨#[]⟩, .string ⟨#[]⟩, .int .i64 0, .string ⟨#[]⟩, .string ⟨#[]⟩]; simpa using this)
  obtain ⟨g1, hg1⟩ : ∃ g1, w.heap.size = g1 := ⟨_, rfl⟩
  have HG := Lib.hid hg1
  rw [hg1] at B1 B2 ⊢
  clear hg1
  generalize World.alloc (World.alloc w _) _ = wy at hb0 B1 B2 ⊢
  have HX : Hid (∀ wx : World, Below wy.heap.size wy wx → (wx.cell? ⟨g1, 0, none⟩ = some (.int .i64 n) ∧ wx.cell? ⟨g1, 1, none⟩ = some (.int .i64 v) ∧ wx.cell? ⟨g1, 2, none⟩ = some (.int .i64 lo) ∧ wx.cell? ⟨g1, 3, none⟩ = some (.slice A m cA) ∧ wx.cell? ⟨g1, 4, none⟩ = some (.slice B k cB))) := Lib.hid fun wx hb => by
    have b1 := B1.out.below hb B1.out.lt
    exact ⟨b1.cell 0, b1.cell 1, b1.cell 2, b1.cell 3, b1.cell 4⟩
  have HZ : Hid (∀ wx : World, Below wy.heap.size wy wx → (wx.cell? ⟨g1 + 1, 0, none⟩ = some (.int .i64 0) ∧ wx.cell? ⟨g1 + 1, 1, none⟩ = some (.int .i64 0) ∧ wx.cell? ⟨g1 + 1, 2, none⟩ = some (.int .i64 0) ∧ wx.cell? ⟨g1 + 1, 3, none⟩ = some (.int .i64 0) ∧ wx.cell? ⟨g1 + 1, 4, none⟩ = some (.string ⟨#[]⟩) ∧ wx.cell? ⟨g1 + 1, 5, none⟩ = some (.string ⟨#[]⟩) ∧ wx.cell? ⟨g1 + 1, 6, none⟩ = some (.int .i64 0) ∧ wx.cell? ⟨g1 + 1, 7, none⟩ = some (.string ⟨#[]⟩) ∧ wx.cell? ⟨g1 + 1, 8, none⟩ = some (.string ⟨#[]⟩) ∧ wx.frozen? ⟨g1 + 1, 0, none⟩ = false ∧ wx.frozen? ⟨g1 + 1, 1, none⟩ = false ∧ wx.frozen? ⟨g1 + 1, 2, none⟩ = false ∧ wx.frozen? ⟨g1 + 1, 3, none⟩ = false ∧ wx.frozen? ⟨g1 + 1, 4, none⟩ = false ∧ wx.frozen? ⟨g1 + 1, 5, none⟩ = false ∧ wx.frozen? ⟨g1 + 1, 6, none⟩ = false ∧ wx.frozen? ⟨g1 + 1, 7, none⟩ = false ∧ wx.frozen? ⟨g1 + 1, 8, none⟩ = false)) := Lib.hid fun wx hb => by
    have b2 := B2.out.below hb B2.out.lt
    exact ⟨b2.cell 0, b2.cell 1, b2.cell 2, b2.cell 3, b2.cell 4, b2.cell 5, b2.cell 6, b2.cell 7, b2.cell 8, b2.frozen 0, b2.frozen 1, b2.frozen 2, b2.frozen 3, b2.frozen 4, b2.frozen 5, b2.frozen 6, b2.frozen 7, b2.frozen 8⟩
  obtain ⟨c0, c1, c2, c3, c4⟩ := HX.out wy (Below.refl _ _)
  go_upto_region 2 with (fail)
  clear c0 c1 c2 c3 c4 hwm
  go_wp2
  go_loopg [6] (m + 1) (fun gk s wr => ∃ j : Nat, gk = j + 1 ∧ j ≤ m ∧ s = .int .i64 ((j : Int) - 1) ∧ Hid (y.L.reverse.find? p = (y.L.take j).reverse.find? p) ∧ Hid (Below wy.heap.size wy wr))
  case atStart => exact ⟨m, rfl, Nat.le_refl _, rfl, Lib.hid (by rw [← hm.out, List.take_length]), Lib.hid (Below.refl _ _)⟩
  case round =>
    obtain ⟨j, rfl, hj, rfl, hf, hb⟩ := hrel
    obtain ⟨c0, c1, c2, c3, c4⟩ := HX.out wr hb.out
    cases j with
    | succ i =>
      have ei : ((i + 1 : Nat) : Int) - 1 = (i : Int) := by omega
      have i0 : (0 : Int) ≤ (i : Int) := by omega
      have hltI : (i : Int) < (m : Int) := by omega
      have hwi : IntKind.i64.wrap ((i : Int) - 1) = (i : Int) - 1 := by rw [IntKind.wrap_i64]; omega
      rw [ei]
      obtain ⟨b, o, rfl, hcc⟩ := H.out.cells (i := i) (by rw [hm.out]; omega)
      have HF := Lib.hid (rfind_at hf.out (by rw [hm.out]; omega))
      generalize y.L.getD i It.none = x at hcc HF
      have HI : Hid (∀ wx : World, Below wr.heap.size wr wx → (wx.cell? ⟨b, o + i * 9, none⟩ = some (.int .i64 x.kind) ∧ wx.cell? ⟨b, o + i * 9 + 1, none⟩ = some (.int .i64 x.frm) ∧ wx.cell? ⟨b, o + i * 9 + 2, none⟩ = some (.int .i64 x.view) ∧ wx.cell? ⟨b, o + i * 9 + 3, none⟩ = some (.int .i64 x.seq) ∧ wx.cell? ⟨b, o + i * 9 + 4, none⟩ = some (.string x.digest) ∧ wx.cell? ⟨b, o + i * 9 + 5, none⟩ = some (.string x.batch) ∧ wx.cell? ⟨b, o + i * 9 + 6, none⟩ = some (.int .i64 x.m.frm) ∧ wx.cell? ⟨b, o + i * 9 + 7, none⟩ = some (.string x.m.body) ∧ wx.cell? ⟨b, o + i * 9 + 8, none⟩ = some (.string x.m.sig))) := Lib.hid fun wx hx => by
        have hxx := below_next (below_next hb0.out hb.out) hx
        exact ⟨hcc wx hxx 0 (by omega), hcc wx hxx 1 (by omega), hcc wx hxx 2 (by omega), hcc wx hxx 3 (by omega), hcc wx hxx 4 (by omega), hcc wx hxx 5 (by omega), hcc wx hxx 6 (by omega), hcc wx hxx 7 (by omega), hcc wx hxx 8 (by omega)⟩
      have HS : Hid (∀ wx : World, Below wr.heap.size wr wx → (wx.cell? ⟨g1, 0, none⟩ = some (.int .i64 n) ∧ wx.cell? ⟨g1, 1, none⟩ = some (.int .i64 v) ∧ wx.cell? ⟨g1, 2, none⟩ = some (.int .i64 lo) ∧ wx.cell? ⟨g1, 3, none⟩ = some (.slice (some ⟨b, o, none⟩) m cA) ∧ wx.cell? ⟨g1, 4, none⟩ = some (.slice B k cB)) ∧ (wx.cell? ⟨b, o + i * 9, none⟩ = some (.int .i64 x.kind) ∧ wx.cell? ⟨b, o + i * 9 + 1, none⟩ = some (.int .i64 x.frm) ∧ wx.cell? ⟨b, o + i * 9 + 2, none⟩ = some (.int .i64 x.view) ∧ wx.cell? ⟨b, o + i * 9 + 3, none⟩ = some (.int .i64 x.seq) ∧ wx.cell? ⟨b, o + i * 9 + 4, none⟩ = some (.string x.digest) ∧ wx.cell? ⟨b, o + i * 9 + 5, none⟩ = some (.string x.batch) ∧ wx.cell? ⟨b, o + i * 9 + 6, none⟩ = some (.int .i64 x.m.frm) ∧ wx.cell? ⟨b, o + i * 9 + 7, none⟩ = some (.string x.m.body) ∧ wx.cell? ⟨b, o + i * 9 + 8, none⟩ = some (.string x.m.sig))) := Lib.hid fun wx hx => ⟨HX.out wx (below_next hb.out hx), HI.out wx hx⟩
      clear hcc ei
      obtain ⟨-, x0, x1, x2, x3, x4, x5, x6, x7, x8⟩ := HS.out wr (Below.refl _ _)
      by_cases hk : x.kind = 5
      · have hkB : (x.kind == 5) = true := by simpa using hk
        by_cases hfr : x.frm = frm
        · have E : Hid (p x = true) := Lib.hid (by rw [HPP.out, decide_eq_true hfr, decide_eq_true hk]; rfl)
          have hfB : (x.frm == frm) = true := by simpa using hfr
          clear hfr hk
          have HL : Hid (Below wr.heap.size wr wr) := Lib.hid (Below.refl _ _)
          have HBz : Hid (Below w.heap.size w wr) := Lib.hid (below_next (below_next hb0.out hb.out) HL.out)
          obtain ⟨⟨c0, c1, c2, c3, c4⟩, x0, x1, x2, x3, x4, x5, x6, x7, x8⟩ := HS.out _ HL.out
          obtain ⟨z0, z1, z2, z3, z4, z5, z6, z7, z8, f0, f1, f2, f3, f4, f5, f6, f7, f8⟩ := HZ.out _ (below_next hb.out HL.out)
          go_wp2
          (try simp only [Exit.inBlock, Exit.then])
          refine bodyPost_ret (by simp [results, Try.results55, asAddr, go_sem, z0, z1, z2, z3, z4, z5, z6, z7, z8]; rfl) rfl ?_
          exact tellsItem (HF.out.1 E.out) (below_nine HBz.out (by rw [HG.out]; exact Nat.le_succ _) _ _ _ _ _ _ _ _ _)
        · have E : Hid (p x = false) := Lib.hid (by rw [HPP.out, decide_eq_false hfr, Bool.and_false])
          have hfB : (x.frm == frm) = false := by simpa using hfr
          clear hfr hk
          have HL : Hid (Below wr.heap.size wr wr) := Lib.hid (Below.refl _ _)
          go_wp2
          go_roundg (i + 1)
          case measure => omega
          case rel => exact ⟨i, rfl, by omega, rfl, Lib.hid (HF.out.2 E.out), Lib.hid (below_next hb.out HL.out)⟩
      · have E : Hid (p x = false) := Lib.hid (by rw [HPP.out, decide_eq_false hk, Bool.false_and])
        have hkB : (x.kind == 5) = false := by simpa using hk
        clear hk
        have HL : Hid (Below wr.heap.size wr wr) := Lib.hid (Below.refl _ _)
        go_wp2
        go_roundg (i + 1)
        case measure => omega
        case rel => exact ⟨i, rfl, by omega, rfl, Lib.hid (HF.out.2 E.out), Lib.hid (below_next hb.out HL.out)⟩
    | zero =>
      have ez : ((0 : Nat) : Int) - 1 = -1 := by omega
      rw [ez]
      have HBz : Hid (Below w.heap.size w wr) := Lib.hid (below_next hb0.out hb.out)
      obtain ⟨z0, z1, z2, z3, z4, z5, z6, z7, z8, f0, f1, f2, f3, f4, f5, f6, f7, f8⟩ := HZ.out wr hb.out
      go_wp2
      (try simp only [Exit.inBlock, Exit.then])
      refine bodyPost_ret (by simp [results, Try.results55, asAddr, go_sem, z0, z1, z2, z3, z4, z5, z6, z7, z8]; rfl) rfl ?_
      exact tellsNone (by rw [hf.out]; rfl) (below_nine HBz.out (by rw [HG.out]; exact Nat.le_succ _) _ _ _ _ _ _ _ _ _)
end Go.Proofs.Ytedndjbhgbdpoaa