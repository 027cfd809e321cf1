/- The reference's Stable (printed by genrs.py). -/
import Derived.Test.YtedndjbhgbdpoaaRlE
import Derived.Test.YtedndjbhgbdpoaaStab
namespace Go.Proofs.Ytedndjbhgbdpoaa
open Go.RowKit
set_option linter.unusedSimpArgs false
set_option linter.unusedVariables false
namespace Rl
def agrees (y : Rl) (s : Int) (r : ByteArray) (i : Int) : Option Sg :=
  match y.last i with
  | some z => if z.seq = s ∧ z.digest = r then some z.m else Option.none
  | Option.none => Option.none
def grp (y : Rl) (s : Int) (r : ByteArray) (k : Nat) : List Sg := (List.range k).filterMap fun (i : Nat) => y.agrees s r (i : Int)
theorem grp_snoc (y : Rl) (s : Int) (r : ByteArray) (i : Nat) : y.grp s r (i + 1) = y.grp s r i ++ (match y.agrees s r (i : Int) with | some x => [x] | Option.none => []) := by
  unfold grp
  rw [List.range_succ, List.filterMap_append]
  cases h : y.agrees s r (i : Int) <;> simp [h]
theorem grp_le (y : Rl) (s : Int) (r : ByteArray) (i : Nat) : (y.grp s r i).length ≤ i := by
  unfold grp
  have := List.length_filterMap_le (fun (i : Nat) => y.agrees s r (i : Int)) (List.range i)
  rwa [List.length_range] at this
/-- What is stable, behind i of n. -/
def StAt (y : Rl) (n q i : Nat) (S : Int) (R : ByteArray) (L : List Sg) : Prop :=
  (S = 0 ∧ R = noText ∧ L = [] ∧ ∀ (j : Nat) z, j < i → y.last (j : Int) = some z → y.low < z.seq → (y.grp z.seq z.digest n).length < q) ∨
  ∃ (j : Nat) (z : It), j < n ∧ y.last (j : Int) = some z ∧ y.low < z.seq ∧ q ≤ (y.grp z.seq z.digest n).length ∧ S = z.seq ∧ R = z.digest ∧ L = (y.grp z.seq z.digest n).take q
theorem StAt.skip {y : Rl} {n q i : Nat} {S : Int} {R : ByteArray} {L : List Sg} (h0 : 0 ≤ y.low) (h : y.StAt n q i S R L) (hs : ∀ z, y.last (i : Int) = some z → z.seq ≤ y.low ∨ z.seq ≤ S ∨ (y.grp z.seq z.digest n).length < q) : y.StAt n q (i + 1) S R L := by
  rcases h with ⟨h1, h2, h3, h4⟩ | h
  · refine .inl ⟨h1, h2, h3, fun j z hj hz hl => ?_⟩
    by_cases e : j = i
    · subst e
      rcases hs z hz with h5 | h5 | h5
      · omega
      · omega
      · exact h5
    · exact h4 j z (by omega) hz hl
  · exact .inr h
end Rl
/-- A list that was told of one of one's own. -/
def SM (wy wr : World) (A : Option Addr) (L : List Sg) : Prop := ∃ m c Lf ql, Mine wy wr 3 (.slice A m c) m (scells Lf) ∧ Lf.length = m ∧ ql ≤ m ∧ L = Lf.take ql
theorem SM.below {wy wr w' : World} {A : Option Addr} {L : List Sg} (h : SM wy wr A L) (hb : Below wr.heap.size wr w') : SM wy w' A L := by
  obtain ⟨m, c, Lf, ql, h1, h2⟩ := h
  exact ⟨m, c, Lf, ql, h1.below hb, h2⟩
theorem SM.cell1 {wy wr : World} {A : Option Addr} {L : List Sg} (h : SM wy wr A L) {g j : Nat} (hg : g < wy.heap.size) (u : Value) : SM wy (wr.setCell ⟨g, j, none⟩ u) A L := by
  obtain ⟨m, c, Lf, ql, h1, h2⟩ := h
  exact ⟨m, c, Lf, ql, h1.cell1 hg u, h2⟩
theorem SM.srow {wy wr : World} {A : Option Addr} {L : List Sg} (h : SM wy wr A L) : SRow wr A L := by
  obtain ⟨m, c, Lf, ql, h1, h2, h3, rfl⟩ := h
  exact (h1.srow h2 h3).2
def TellsStable (w : World) (y : Rl) (n q : Nat) (e : Ending) (w' : World) : Prop := ∃ S R L A c, e = .returned (.tuple #[.int .i64 S, .string R, .slice A L.length c]) ∧ y.StAt n q n S R L ∧ SRow w' A L ∧ Below w.heap.size w w'
theorem tellsStable {w w' : World} {y : Rl} {n q m c : Nat} {S : Int} {R : ByteArray} {L : List Sg} {A : Option Addr} (hm : L.length = m) (h1 : y.StAt n q n S R L) (h2 : SRow w' A L) (h3 : Below w.heap.size w w') : TellsStable w y n q (.returned (.tuple #[.int .i64 S, .string R, .slice A m c])) w' := ⟨S, R, L, A, c, by rw [hm], h1, h2, h3⟩
set_option maxHeartbeats 16000000 in
set_option maxRecDepth 20000 in
theorem rstable_calls (w : World) (A B : Option Addr) (cA k cB : Nat) (y : Rl) (h : IRow w A y.L) (hlo : 0 ≤ y.low) (hlen : y.L.length ≤ 1000) (hn : y.n = 4 ∨ y.n = 7 ∨ y.n = 10 ∨ y.n = 13) :
    Calls Try.prog 49 #[.agg #[.int .i64 y.n, .int .i64 y.view, .int .i64 y.low, .slice A y.L.length cA, .slice B k cB]] w (TellsStable w y y.n.toNat y.quorum.toNat) := by
  have HLa : Hid (∀ (i : Nat) wx, Below w.heap.size w wx → Calls Try.prog 55 #[.agg #[.int .i64 y.n, .int .i64 y.view, .int .i64 y.low, .slice A y.L.length cA, .slice B k cB], .int .i64 (i : Int)] wx fun e w' => e = .returned (.tuple #[.agg #[.int .i64 ((y.last (i : Int)).getD It.none).kind, .int .i64 ((y.last (i : Int)).getD It.none).frm, .int .i64 ((y.last (i : Int)).getD It.none).view, .int .i64 ((y.last (i : Int)).getD It.none).seq, .string ((y.last (i : Int)).getD It.none).digest, .string ((y.last (i : Int)).getD It.none).batch, .int .i64 ((y.last (i : Int)).getD It.none).m.frm, .string ((y.last (i : Int)).getD It.none).m.body, .string ((y.last (i : Int)).getD It.none).m.sig], .bool (y.last (i : Int)).isSome]) ∧ Below wx.heap.size wx w') := Lib.hid fun i wx hb => rlast_calls wx A B cA k cB y (h.below hb) hlen (i : Int)
  have HQ : Hid (∀ wx, Calls Try.prog 56 #[.agg #[.int .i64 y.n, .int .i64 y.view, .int .i64 y.low, .slice A y.L.length cA, .slice B k cB]] wx fun e w' => e = .returned (.int .i64 (y.n - (y.n - 1) / 3)) ∧ Below wx.heap.size wx w') := Lib.hid fun wx => rquorum_calls wx y.n y.view y.low A B y.L.length cA k cB hn
  have HGs := Lib.hid (fun s r i => Rl.grp_snoc y s r i)
  have HGl := Lib.hid (fun s r i => Rl.grp_le y s r i)
  have HAi : Hid (∀ s r (i : Nat), y.agrees s r (i : Int) = match y.last (i : Int) with | some z => if z.seq = s ∧ z.digest = r then some z.m else Option.none | Option.none => Option.none) := Lib.hid fun _ _ _ => rfl
  obtain ⟨n, hnn⟩ : ∃ n : Nat, Hid (y.n = (n : Int)) := ⟨y.n.toNat, Lib.hid (by omega)⟩
  obtain ⟨q, hqq⟩ : ∃ q : Nat, Hid (y.n - (y.n - 1) / 3 = (q : Int)) := ⟨(y.n - (y.n - 1) / 3).toNat, Lib.hid (by omega)⟩
  have eN : y.n.toNat = n := by rw [hnn.out]; rfl
  have eQ : y.quorum.toNat = q := by
    have : y.quorum = (q : Int) := hqq.out
    rw [this]; rfl
  rw [eN, eQ]
  rw [hqq.out] at HQ
  have hq1 : 1 ≤ q ∧ q ≤ n := by have := hqq.out; have := hnn.out; omega
  obtain ⟨hq1, hqn⟩ := hq1
  rw [hnn.out] at hn HLa HQ ⊢
  have hn4 : 4 ≤ n := by omega
  have hn13 : n ≤ 13 := by omega
  generalize y.L.length = m at HLa HQ ⊢
  obtain ⟨v, hvw⟩ : ∃ v, y.view = v := ⟨_, rfl⟩
  obtain ⟨lo, hl⟩ : ∃ lo, Hid (y.low = lo) := ⟨_, Lib.hid rfl⟩
  rw [hvw, hl.out] at HLa HQ
  rw [hvw, hl.out]
  have hloH := Lib.hid hlo
  obtain ⟨i1, hi1, hy0, hy1, hy2⟩ := info_parts info_sg
  have HI1 := Lib.hid hi1
  have HY0 := Lib.hid hy0
  have HY1 := Lib.hid hy1
  have HY2 := Lib.hid hy2
  clear hi1 hy0 hy1 hy2 h hn hlo hlen hvw eN eQ
  have hb0 : Hid (Below w.heap.size w ((w.alloc (.cells #[.int .i64 (n : Int), .int .i64 v, .int .i64 lo, .slice A m cA, .slice B k cB] 65)).alloc (.cells #[.int .i64 0, .int .i64 0, .int .i64 0, .int .i64 0, .string ⟨#[]⟩, .string ⟨#[]⟩, .int .i64 0, .string ⟨#[]⟩, .string ⟨#[]⟩] 106))) := Lib.hid (((Below.refl _ _).alloc (Nat.le_refl _) _).alloc (by simp) _)
  have B1 : Hid (Blk ((w.alloc (.cells #[.int .i64 (n : Int), .int .i64 v, .int .i64 lo, .slice A m cA, .slice B k cB] 65)).alloc (.cells #[.int .i64 0, .int .i64 0, .int .i64 0, .int .i64 0, .string ⟨#[]⟩, .string ⟨#[]⟩, .int .i64 0, .string ⟨#[]⟩, .string ⟨#[]⟩] 106)) w.heap.size 65 #[.int .i64 (n : Int), .int .i64 v, .int .i64 lo, .slice A m cA, .slice B k cB]) := Lib.hid ((Blk.new _ _ _).alloc _)
  have B5 : Hid (Blk ((w.alloc (.cells #[.int .i64 (n : Int), .int .i64 v, .int .i64 lo, .slice A m cA, .slice B k cB] 65)).alloc (.cells #[.int .i64 0, .int .i64 0, .int .i64 0, .int .i64 0, .string ⟨#[]⟩, .string ⟨#[]⟩, .int .i64 0, .string ⟨#[]⟩, .string ⟨#[]⟩] 106)) (w.heap.size + 1) 106 #[.int .i64 It.none.kind, .int .i64 It.none.frm, .int .i64 It.none.view, .int .i64 It.none.seq, .string It.none.digest, .string It.none.batch, .int .i64 It.none.m.frm, .string It.none.m.body, .string It.none.m.sig]) := Lib.hid (show Blk ((w.alloc (.cells #[.int .i64 (n : Int), .int .i64 v, .int .i64 lo, .slice A m cA, .slice B k cB] 65)).alloc (.cells #[.int .i64 0, .int .i64 0, .int .i64 0, .int .i64 0, .string ⟨#[]⟩, .string ⟨#[]⟩, .int .i64 0, .string ⟨#[]⟩, .string ⟨#[]⟩] 106)) (w.heap.size + 1) 106 #[.int .i64 0, .int .i64 0, .int .i64 0, .int .i64 0, .string ⟨#[]⟩, .string ⟨#[]⟩, .int .i64 0, .string ⟨#[]⟩, .string ⟨#[]⟩] from by have := Blk.new (w.alloc (.cells #[.int .i64 (n : Int), .int .i64 v, .int .i64 lo, .slice A m cA, .slice B k cB] 65)) 106 #[.int .i64 0, .int .i64 0, .int .i64 0, .int .i64 0, .string ⟨#[]⟩, .string ⟨#[]⟩, .int .i64 0, .string ⟨#[]⟩, .string ⟨#[]⟩]; simpa using this)
  go_enter Try.func49, Try.ntmps49
  go_upto_region 2 with (fail)
  obtain ⟨g1, hg1⟩ : ∃ g1, w.heap.size = g1 := ⟨_, rfl⟩
  have HG := Lib.hid hg1
  rw [hg1] at B1 B5 ⊢
  clear hg1
  generalize World.alloc (World.alloc w _) _ = wy at hb0 B1 B5 ⊢
  have hgy : Hid (g1 + 1 < wy.heap.size) := Lib.hid B5.out.lt
  obtain ⟨g5, hg5⟩ : ∃ g5, Hid (g1 + 1 = g5) := ⟨_, Lib.hid rfl⟩
  have hne : Hid (g1 ≠ g5) := Lib.hid (by have := hg5.out; omega)
  rw [hg5.out] at B5 hgy ⊢
  have HS0 : Hid (y.StAt n q 0 It.none.seq It.none.digest []) := Lib.hid (.inl ⟨rfl, rfl, rfl, fun j z hj => by omega⟩)
  have HM0 : Hid (SM wy wy none []) := Lib.hid ⟨0, 0, [], 0, Mine.empty _ _ _ _, rfl, Nat.le_refl _, rfl⟩
  go_wp2
  go_loopg [6, 7] (n + 1) (fun gk s6 s7 wr => ∃ (i : Nat) (A6 : Option Addr) (c6 ml : Nat) (Lc : List Sg) (bt : It), gk = n + 1 - i ∧ i ≤ n ∧ s7 = .int .i64 (i : Int) ∧ s6 = .slice A6 ml c6 ∧ Hid (Lc.length = ml) ∧ Hid (SM wy wr A6 Lc) ∧ Hid (y.StAt n q i bt.seq bt.digest Lc) ∧ Hid (Blk wr g1 65 #[.int .i64 (n : Int), .int .i64 v, .int .i64 lo, .slice A m cA, .slice B k cB]) ∧ Hid (Blk wr g5 106 #[.int .i64 bt.kind, .int .i64 bt.frm, .int .i64 bt.view, .int .i64 bt.seq, .string bt.digest, .string bt.batch, .int .i64 bt.m.frm, .string bt.m.body, .string bt.m.sig]) ∧ Hid (Below w.heap.size w wr) ∧ Hid (wy.heap.size ≤ wr.heap.size))
  case atStart => exact ⟨0, none, 0, 0, [], It.none, rfl, Nat.zero_le _, rfl, rfl, Lib.hid rfl, HM0, HS0, B1, B5, hb0, Lib.hid (Nat.le_refl _)⟩
  case round =>
    clear HM0 HS0 B1 B5 hb0
    obtain ⟨i, A6, c6, ml, Lc, bt, rfl, hi, rfl, rfl, hml, hsm, hst, hB1, hB5, hb, hsz⟩ := hrel
    have i0 : (0 : Int) ≤ (i : Int) := by omega
    have HX : Hid (∀ wx : World, Below wr.heap.size wr wx → (wx.cell? ⟨g1, 0, none⟩ = some (.int .i64 (n : Int)) ∧ wx.cell? ⟨g1, 1, none⟩ = some (.int .i64 v) ∧ wx.cell? ⟨g1, 2, none⟩ = some (.int .i64 lo) ∧ wx.cell? ⟨g1, 3, none⟩ = some (.slice A m cA) ∧ wx.cell? ⟨g1, 4, none⟩ = some (.slice B k cB))) := Lib.hid fun wx hx => by
      have b1 := hB1.out.below hx hB1.out.lt
      exact ⟨b1.cell 0, b1.cell 1, b1.cell 2, b1.cell 3, b1.cell 4⟩
    have HB : Hid (∀ wx : World, Below wr.heap.size wr wx → (wx.cell? ⟨g5, 0, none⟩ = some (.int .i64 bt.kind) ∧ wx.cell? ⟨g5, 1, none⟩ = some (.int .i64 bt.frm) ∧ wx.cell? ⟨g5, 2, none⟩ = some (.int .i64 bt.view) ∧ wx.cell? ⟨g5, 3, none⟩ = some (.int .i64 bt.seq) ∧ wx.cell? ⟨g5, 4, none⟩ = some (.string bt.digest) ∧ wx.cell? ⟨g5, 5, none⟩ = some (.string bt.batch) ∧ wx.cell? ⟨g5, 6, none⟩ = some (.int .i64 bt.m.frm) ∧ wx.cell? ⟨g5, 7, none⟩ = some (.string bt.m.body) ∧ wx.cell? ⟨g5, 8, none⟩ = some (.string bt.m.sig)) ∧ wx.frozen? ⟨g5, 0, none⟩ = false ∧ wx.frozen? ⟨g5, 1, none⟩ = false ∧ wx.frozen? ⟨g5, 2, none⟩ = false ∧ wx.frozen? ⟨g5, 3, none⟩ = false ∧ wx.frozen? ⟨g5, 4, none⟩ = false ∧ wx.frozen? ⟨g5, 5, none⟩ = false ∧ wx.frozen? ⟨g5, 6, none⟩ = false ∧ wx.frozen? ⟨g5, 7, none⟩ = false ∧ wx.frozen? ⟨g5, 8, none⟩ = false) := Lib.hid fun wx hx => by
      have b1 := hB5.out.below hx hB5.out.lt
      exact ⟨⟨b1.cell 0, b1.cell 1, b1.cell 2, b1.cell 3, b1.cell 4, b1.cell 5, b1.cell 6, b1.cell 7, b1.cell 8⟩, b1.frozen 0, b1.frozen 1, b1.frozen 2, b1.frozen 3, b1.frozen 4, b1.frozen 5, b1.frozen 6, b1.frozen 7, b1.frozen 8⟩
    obtain ⟨c0, c1, c2, c3, c4⟩ := HX.out wr (Below.refl _ _)
    by_cases hlt : i < n
    · have hltI : (i : Int) < (n : Int) := by omega
      have HLx := Lib.hid (HLa.out i wr hb.out)
      have hkeep : Hid (∀ wx, Below wr.heap.size wr wx → (∀ z, y.last (i : Int) = some z → z.seq ≤ y.low ∨ z.seq ≤ bt.seq ∨ (y.grp z.seq z.digest n).length < q) → ∃ (i' : Nat) (A6' : Option Addr) (c6' ml' : Nat) (Lc' : List Sg) (bt' : It), n + 1 - (i + 1) = n + 1 - i' ∧ i' ≤ n ∧ Value.int .i64 ((i : Int) + 1) = .int .i64 (i' : Int) ∧ Value.slice A6 ml c6 = .slice A6' ml' c6' ∧ Hid (List.length Lc' = ml') ∧ Hid (SM wy wx A6' Lc') ∧ Hid (y.StAt n q i' bt'.seq bt'.digest Lc') ∧ Hid (Blk wx g1 65 #[.int .i64 (n : Int), .int .i64 v, .int .i64 lo, .slice A m cA, .slice B k cB]) ∧ Hid (Blk wx g5 106 #[.int .i64 bt'.kind, .int .i64 bt'.frm, .int .i64 bt'.view, .int .i64 bt'.seq, .string bt'.digest, .string bt'.batch, .int .i64 bt'.m.frm, .string bt'.m.body, .string bt'.m.sig]) ∧ Hid (Below w.heap.size w wx) ∧ Hid (wy.heap.size ≤ wx.heap.size)) := Lib.hid fun wx hx hz => ⟨i + 1, A6, c6, ml, Lc, bt, rfl, by omega, by go_num, rfl, hml, Lib.hid (hsm.out.below hx), Lib.hid (Rl.StAt.skip hloH.out hst.out hz), Lib.hid (hB1.out.below hx hB1.out.lt), Lib.hid (hB5.out.below hx hB5.out.lt), Lib.hid (below_next hb.out hx), Lib.hid (Nat.le_trans hsz.out hx.size)⟩
      cases hla : y.last (i : Int) with
      | none =>
        have hz := Lib.hid (show ∀ z, y.last (i : Int) = some z → z.seq ≤ y.low ∨ z.seq ≤ bt.seq ∨ (y.grp z.seq z.digest n).length < q from fun z hz => by rw [hla] at hz; cases hz)
        rw [hla] at HLx
        simp only [Option.getD_none, Option.isSome_none] at HLx
        generalize It.none = p at HLx
        clear hla
        go_wp2_with (first
          | (go_at_call 55; (with_reducible refine (HLx.out).mono ?_); rintro e w2 ⟨rfl, hh⟩; have Hb2 := Lib.hid hh; clear hh))
        go_roundg (n + 1 - (i + 1))
        case measure => omega
        case rel => exact hkeep.out _ (Hb2.out.alloc Hb2.out.size _) hz.out
      | some p =>
        have hlaH := Lib.hid hla
        rw [hla] at HLx
        simp only [Option.getD_some, Option.isSome_some] at HLx
        clear hla
        go_upto_region 7 with (first
          | (go_at_call 55; (with_reducible refine (HLx.out).mono ?_); rintro e w2 ⟨rfl, hh⟩; have Hb2 := Lib.hid hh; clear hh))
        clear c0 c1 c2 c3 c4
        have hb4 : Hid (Below wr.heap.size wr (w2.alloc (.cells #[.int .i64 p.kind, .int .i64 p.frm, .int .i64 p.view, .int .i64 p.seq, .string p.digest, .string p.batch, .int .i64 p.m.frm, .string p.m.body, .string p.m.sig] 106))) := Lib.hid (Hb2.out.alloc Hb2.out.size _)
        have BQ : Hid (Blk (w2.alloc (.cells #[.int .i64 p.kind, .int .i64 p.frm, .int .i64 p.view, .int .i64 p.seq, .string p.digest, .string p.batch, .int .i64 p.m.frm, .string p.m.body, .string p.m.sig] 106)) w2.heap.size 106 #[.int .i64 p.kind, .int .i64 p.frm, .int .i64 p.view, .int .i64 p.seq, .string p.digest, .string p.batch, .int .i64 p.m.frm, .string p.m.body, .string p.m.sig]) := Lib.hid (Blk.new _ _ _)
        obtain ⟨g8, hg8⟩ : ∃ g8, w2.heap.size = g8 := ⟨_, rfl⟩
        rw [hg8] at BQ ⊢
        clear hg8 Hb2 HLx
        generalize World.alloc w2 _ = wi at hb4 BQ ⊢
        have HP : Hid (∀ wx : World, Below wi.heap.size wi wx → wx.cell? ⟨g8, 0, none⟩ = some (.int .i64 p.kind) ∧ wx.cell? ⟨g8, 1, none⟩ = some (.int .i64 p.frm) ∧ wx.cell? ⟨g8, 2, none⟩ = some (.int .i64 p.view) ∧ wx.cell? ⟨g8, 3, none⟩ = some (.int .i64 p.seq) ∧ wx.cell? ⟨g8, 4, none⟩ = some (.string p.digest) ∧ wx.cell? ⟨g8, 5, none⟩ = some (.string p.batch) ∧ wx.cell? ⟨g8, 6, none⟩ = some (.int .i64 p.m.frm) ∧ wx.cell? ⟨g8, 7, none⟩ = some (.string p.m.body) ∧ wx.cell? ⟨g8, 8, none⟩ = some (.string p.m.sig)) := Lib.hid fun wx hx => by
          have b1 := BQ.out.below hx BQ.out.lt
          exact ⟨b1.cell 0, b1.cell 1, b1.cell 2, b1.cell 3, b1.cell 4, b1.cell 5, b1.cell 6, b1.cell 7, b1.cell 8⟩
        obtain ⟨c0, c1, c2, c3, c4⟩ := HX.out wi hb4.out
        obtain ⟨⟨-, -, -, b3, -, -, -, -, -⟩, -⟩ := HB.out wi hb4.out
        obtain ⟨-, -, -, p3, -, -, -, -, -⟩ := HP.out wi (Below.refl _ _)
        by_cases s1 : p.seq ≤ lo
        · have hz := Lib.hid (show ∀ z, y.last (i : Int) = some z → z.seq ≤ y.low ∨ z.seq ≤ bt.seq ∨ (y.grp z.seq z.digest n).length < q from fun z hz => by rw [hlaH.out] at hz; cases hz; rw [hl.out]; exact .inl s1)
          go_wp2
          go_roundg (n + 1 - (i + 1))
          case measure => omega
          case rel => exact hkeep.out _ hb4.out hz.out
        by_cases s2 : p.seq ≤ bt.seq
        · have hz := Lib.hid (show ∀ z, y.last (i : Int) = some z → z.seq ≤ y.low ∨ z.seq ≤ bt.seq ∨ (y.grp z.seq z.digest n).length < q from fun z hz => by rw [hlaH.out] at hz; cases hz; exact .inr (.inl s2))
          have s1B : decide (p.seq ≤ lo) = false := by simpa using s1
          go_wp2
          go_roundg (n + 1 - (i + 1))
          case measure => omega
          case rel => exact hkeep.out _ hb4.out hz.out
        have s1B : decide (p.seq ≤ lo) = false := by simpa using s1
        have s2B : decide (p.seq ≤ bt.seq) = false := by simpa using s2
        go_upto_region 8 with (fail)
        clear c0 c1 c2 c3 c4 b3 p3 s1B s2B
        have s1H := Lib.hid s1
        clear s1 s2
        go_wp2
        go_loopg [10, 11] (n + 1) (fun gk s10 s11 wj => ∃ j A' c' gl, gk = n + 1 - j ∧ j ≤ n ∧ s11 = .int .i64 (j : Int) ∧ s10 = .slice A' gl c' ∧ Hid ((y.grp p.seq p.digest j).length = gl) ∧ Hid (Mine wi wj 3 (.slice A' gl c') gl (scells (y.grp p.seq p.digest j))) ∧ Hid (Below wi.heap.size wi wj))
        case atStart => exact ⟨0, none, 0, 0, rfl, Nat.zero_le _, rfl, rfl, Lib.hid rfl, Lib.hid (Mine.empty _ _ _ _), Lib.hid (Below.refl _ _)⟩
        case round =>
          obtain ⟨j, A', c', gl, rfl, hj, rfl, rfl, hgl, hm, hbj⟩ := hrel
          have j0 : (0 : Int) ≤ (j : Int) := by omega
          have hbjr := Lib.hid (below_next hb4.out hbj.out)
          obtain ⟨c0, c1, c2, c3, c4⟩ := HX.out _ hbjr.out
          by_cases hltj : j < n
          · have hltjI : (j : Int) < (n : Int) := by omega
            have hgs := Lib.hid (HGs.out p.seq p.digest j)
            have hgle := HGl.out p.seq p.digest j
            rw [hgl.out] at hgle
            have hai := Lib.hid (HAi.out p.seq p.digest j)
            have HLy := Lib.hid (HLa.out j _ (below_next hb.out hbjr.out))
            have hsame : Hid (∀ wx, Below wi.heap.size wi wx → Mine wi wx 3 (.slice A' gl c') gl (scells (y.grp p.seq p.digest j)) → y.grp p.seq p.digest (j + 1) = y.grp p.seq p.digest j → ∃ j' A'' c'' gl', n + 1 - (j + 1) = n + 1 - j' ∧ j' ≤ n ∧ Value.int .i64 ((j : Int) + 1) = .int .i64 (j' : Int) ∧ Value.slice A' gl c' = .slice A'' gl' c'' ∧ Hid ((y.grp p.seq p.digest j').length = gl') ∧ Hid (Mine wi wx 3 (.slice A'' gl' c'') gl' (scells (y.grp p.seq p.digest j'))) ∧ Hid (Below wi.heap.size wi wx)) := Lib.hid fun wx hx hmx he => ⟨j + 1, A', c', gl, rfl, by omega, by go_num, rfl, by rw [he]; exact hgl, by rw [he]; exact Lib.hid hmx, Lib.hid hx⟩
            cases hla2 : y.last (j : Int) with
            | none =>
              have E2 : Hid (y.grp p.seq p.digest (j + 1) = y.grp p.seq p.digest j) := Lib.hid (by rw [hgs.out, hai.out, hla2]; simp)
              rw [hla2] at HLy
              simp only [Option.getD_none, Option.isSome_none] at HLy
              generalize It.none = z at HLy
              clear hla2 hgs hai
              go_wp2_with (first
                | (go_at_call 55; (with_reducible refine (HLy.out).mono ?_); rintro e w3 ⟨rfl, hh⟩; have Hb3 := Lib.hid hh; clear hh))
              go_roundg (n + 1 - (j + 1))
              case measure => omega
              case rel =>
                have hbn := Hb3.out.alloc Hb3.out.size (.cells #[.int .i64 z.kind, .int .i64 z.frm, .int .i64 z.view, .int .i64 z.seq, .string z.digest, .string z.batch, .int .i64 z.m.frm, .string z.m.body, .string z.m.sig] 106)
                exact hsame.out _ (below_next hbj.out hbn) (hm.out.below hbn) E2.out
            | some z =>
              have hai2 : Hid (y.agrees p.seq p.digest (j : Int) = if z.seq = p.seq ∧ z.digest = p.digest then some z.m else Option.none) := Lib.hid (by rw [hai.out, hla2])
              rw [hla2] at HLy
              simp only [Option.getD_some, Option.isSome_some] at HLy
              clear hla2 hai
              go_upto_region 13 with (first
                | (go_at_call 55; (with_reducible refine (HLy.out).mono ?_); rintro e w3 ⟨rfl, hh⟩; have Hb3 := Lib.hid hh; clear hh))
              clear c0 c1 c2 c3 c4
              have hbu : Hid (Below wi.heap.size wi (w3.alloc (.cells #[.int .i64 z.kind, .int .i64 z.frm, .int .i64 z.view, .int .i64 z.seq, .string z.digest, .string z.batch, .int .i64 z.m.frm, .string z.m.body, .string z.m.sig] 106))) := Lib.hid (below_next hbj.out (Hb3.out.alloc Hb3.out.size _))
              have hmu := Lib.hid (hm.out.below (Hb3.out.alloc Hb3.out.size (.cells #[.int .i64 z.kind, .int .i64 z.frm, .int .i64 z.view, .int .i64 z.seq, .string z.digest, .string z.batch, .int .i64 z.m.frm, .string z.m.body, .string z.m.sig] 106)))
              have BZ : Hid (Blk (w3.alloc (.cells #[.int .i64 z.kind, .int .i64 z.frm, .int .i64 z.view, .int .i64 z.seq, .string z.digest, .string z.batch, .int .i64 z.m.frm, .string z.m.body, .string z.m.sig] 106)) w3.heap.size 106 #[.int .i64 z.kind, .int .i64 z.frm, .int .i64 z.view, .int .i64 z.seq, .string z.digest, .string z.batch, .int .i64 z.m.frm, .string z.m.body, .string z.m.sig]) := Lib.hid (Blk.new _ _ _)
              obtain ⟨gz, hgz⟩ : ∃ gz, w3.heap.size = gz := ⟨_, rfl⟩
              rw [hgz] at BZ ⊢
              clear hgz Hb3 HLy
              generalize World.alloc w3 _ = wu at hbu hmu BZ ⊢
              have q3 : wu.cell? ⟨gz, 3, none⟩ = some (.int .i64 z.seq) := BZ.out.cell 3
              have q4 : wu.cell? ⟨gz, 4, none⟩ = some (.string z.digest) := BZ.out.cell 4
              have q6 : wu.cell? ⟨gz, 6, none⟩ = some (.int .i64 z.m.frm) := BZ.out.cell 6
              have q7 : wu.cell? ⟨gz, 7, none⟩ = some (.string z.m.body) := BZ.out.cell 7
              have q8 : wu.cell? ⟨gz, 8, none⟩ = some (.string z.m.sig) := BZ.out.cell 8
              obtain ⟨-, -, -, p3, p4, -, -, -, -⟩ := HP.out wu hbu.out
              by_cases d1 : z.seq = p.seq
              · have d1B : (z.seq == p.seq) = true := by simpa using d1
                by_cases d2 : z.digest = p.digest
                · have E2 : Hid (y.grp p.seq p.digest (j + 1) = y.grp p.seq p.digest j ++ [z.m]) := Lib.hid (by rw [hgs.out, hai2.out, if_pos ⟨d1, d2⟩])
                  rw [d2] at q4
                  rw [d1] at q3
                  clear hgs hai2 d1 d2 d1B
                  go_wp2_with (first
                    | (refine wpList_append_mine rfl (.tmp 70) (.tmp 73) 44 44 rfl 48 i1 (.agg #[.int .i64 0, .string noText, .string noText]) 40 Try.underlying44 HI1.out HY0.out HY1.out HY2.out rfl (by decide) rfl (hmu.out.alloc _) (hbu.out.alloc hbu.out.size _) _ 1 [.int .i64 z.m.frm, .string z.m.body, .string z.m.sig] rfl (src_new Try.underlying44 _ _ _ 1 1 rfl (by simp [Value.oneCell'])) (by unfold maxLen; omega) (by omega) ?_; intro A2 c2' w4 hm4 hb5; have HM4 := Lib.hid hm4; have HB5 := Lib.hid hb5; clear hm4 hb5))
                  go_roundg (n + 1 - (j + 1))
                  case measure => omega
                  case rel =>
                    have hlen2 : (y.grp p.seq p.digest (j + 1)).length = gl + 1 := by rw [E2.out, List.length_append, hgl.out]; rfl
                    refine ⟨j + 1, A2, c2', gl + 1, rfl, by omega, by go_num, rfl, Lib.hid hlen2, Lib.hid ?_, Lib.hid HB5.out⟩
                    rw [E2.out, scells_append]
                    exact HM4.out
                · have E2 : Hid (y.grp p.seq p.digest (j + 1) = y.grp p.seq p.digest j) := Lib.hid (by rw [hgs.out, hai2.out, if_neg (fun hh => d2 hh.2)]; simp)
                  have k2 := text_ne d2
                  have k3 := text_apart d2
                  have k4 := text_differ d2
                  rw [d1] at q3
                  clear hgs hai2 d2 d1B
                  go_wp2
                  go_roundg (n + 1 - (j + 1))
                  case measure => omega
                  case rel => exact hsame.out _ hbu.out hmu.out E2.out
              · have E2 : Hid (y.grp p.seq p.digest (j + 1) = y.grp p.seq p.digest j) := Lib.hid (by rw [hgs.out, hai2.out, if_neg (fun hh => d1 hh.1)]; simp)
                have d1B : (z.seq == p.seq) = false := by simpa using d1
                clear hgs hai2
                go_wp2
                go_roundg (n + 1 - (j + 1))
                case measure => omega
                case rel => exact hsame.out _ hbu.out hmu.out E2.out
          · obtain rfl : n = j := by omega
            clear hltj j0
            by_cases hqc : q ≤ gl
            · have hqI : (q : Int) ≤ (gl : Int) := by omega
              obtain ⟨bq, oq, hAq, -, -, hgc, -⟩ := mine_list hm.out (by omega)
              subst hAq
              have hqcI : (q : Int) ≤ (c' : Int) := by omega
              have hq0 : (0 : Int) ≤ (q : Int) := by omega
              go_upto_region 16 with (first
                | (go_at_call 56; (with_reducible refine (HQ.out _).mono ?_); rintro e w5 ⟨rfl, hh⟩; have Hb5 := Lib.hid (below_next hbj.out hh); have HmQ := Lib.hid (hm.out.below hh); clear hh))
              clear c0 c1 c2 c3 c4
              obtain ⟨p0, p1, p2, p3, p4, p5, p6, p7, p8⟩ := HP.out w5 Hb5.out
              obtain ⟨⟨b0, b1, b2, b3, b4, b5, b6, b7, b8⟩, f0, f1, f2, f3, f4, f5, f6, f7, f8⟩ := HB.out w5 (below_next hb4.out Hb5.out)
              have h5r := Lib.hid (below_next hb4.out Hb5.out)
              go_upto_region 17 with (fail)
              clear p0 b0 f0 p1 b1 f1 p2 b2 f2 p3 b3 f3 p4 b4 f4 p5 b5 f5 p6 b6 f6 p7 b7 f7 p8 b8 f8
              have HB5' : Hid (Blk (((((((((w5.setCell ⟨g5, 0, none⟩ (.int .i64 p.kind)).setCell ⟨g5, 1, none⟩ (.int .i64 p.frm)).setCell ⟨g5, 2, none⟩ (.int .i64 p.view)).setCell ⟨g5, 3, none⟩ (.int .i64 p.seq)).setCell ⟨g5, 4, none⟩ (.string p.digest)).setCell ⟨g5, 5, none⟩ (.string p.batch)).setCell ⟨g5, 6, none⟩ (.int .i64 p.m.frm)).setCell ⟨g5, 7, none⟩ (.string p.m.body)).setCell ⟨g5, 8, none⟩ (.string p.m.sig)) g5 106 #[.int .i64 p.kind, .int .i64 p.frm, .int .i64 p.view, .int .i64 p.seq, .string p.digest, .string p.batch, .int .i64 p.m.frm, .string p.m.body, .string p.m.sig]) := Lib.hid ((((((((((hB5.out.below h5r.out hB5.out.lt).set_ 0 (.int .i64 p.kind)).set_ 1 (.int .i64 p.frm)).set_ 2 (.int .i64 p.view)).set_ 3 (.int .i64 p.seq)).set_ 4 (.string p.digest)).set_ 5 (.string p.batch)).set_ 6 (.int .i64 p.m.frm)).set_ 7 (.string p.m.body)).set_ 8 (.string p.m.sig))
              have HB1' : Hid (Blk (((((((((w5.setCell ⟨g5, 0, none⟩ (.int .i64 p.kind)).setCell ⟨g5, 1, none⟩ (.int .i64 p.frm)).setCell ⟨g5, 2, none⟩ (.int .i64 p.view)).setCell ⟨g5, 3, none⟩ (.int .i64 p.seq)).setCell ⟨g5, 4, none⟩ (.string p.digest)).setCell ⟨g5, 5, none⟩ (.string p.batch)).setCell ⟨g5, 6, none⟩ (.int .i64 p.m.frm)).setCell ⟨g5, 7, none⟩ (.string p.m.body)).setCell ⟨g5, 8, none⟩ (.string p.m.sig)) g1 65 #[.int .i64 (n : Int), .int .i64 v, .int .i64 lo, .slice A m cA, .slice B k cB]) := Lib.hid ((((((((((hB1.out.below h5r.out hB1.out.lt).far hne.out (.int .i64 p.kind)).far hne.out (.int .i64 p.frm)).far hne.out (.int .i64 p.view)).far hne.out (.int .i64 p.seq)).far hne.out (.string p.digest)).far hne.out (.string p.batch)).far hne.out (.int .i64 p.m.frm)).far hne.out (.string p.m.body)).far hne.out (.string p.m.sig))
              have HMp : Hid (Mine wi (((((((((w5.setCell ⟨g5, 0, none⟩ (.int .i64 p.kind)).setCell ⟨g5, 1, none⟩ (.int .i64 p.frm)).setCell ⟨g5, 2, none⟩ (.int .i64 p.view)).setCell ⟨g5, 3, none⟩ (.int .i64 p.seq)).setCell ⟨g5, 4, none⟩ (.string p.digest)).setCell ⟨g5, 5, none⟩ (.string p.batch)).setCell ⟨g5, 6, none⟩ (.int .i64 p.m.frm)).setCell ⟨g5, 7, none⟩ (.string p.m.body)).setCell ⟨g5, 8, none⟩ (.string p.m.sig)) 3 (.slice (some ⟨bq, oq, none⟩) gl c') gl (scells (y.grp p.seq p.digest n))) := Lib.hid ((((((((((HmQ.out).cell1 (by have := hgy.out; have := hsz.out; have := hb4.out.size; omega) (.int .i64 p.kind)).cell1 (by have := hgy.out; have := hsz.out; have := hb4.out.size; omega) (.int .i64 p.frm)).cell1 (by have := hgy.out; have := hsz.out; have := hb4.out.size; omega) (.int .i64 p.view)).cell1 (by have := hgy.out; have := hsz.out; have := hb4.out.size; omega) (.int .i64 p.seq)).cell1 (by have := hgy.out; have := hsz.out; have := hb4.out.size; omega) (.string p.digest)).cell1 (by have := hgy.out; have := hsz.out; have := hb4.out.size; omega) (.string p.batch)).cell1 (by have := hgy.out; have := hsz.out; have := hb4.out.size; omega) (.int .i64 p.m.frm)).cell1 (by have := hgy.out; have := hsz.out; have := hb4.out.size; omega) (.string p.m.body)).cell1 (by have := hgy.out; have := hsz.out; have := hb4.out.size; omega) (.string p.m.sig))
              have HBw : Hid (Below w.heap.size w (((((((((w5.setCell ⟨g5, 0, none⟩ (.int .i64 p.kind)).setCell ⟨g5, 1, none⟩ (.int .i64 p.frm)).setCell ⟨g5, 2, none⟩ (.int .i64 p.view)).setCell ⟨g5, 3, none⟩ (.int .i64 p.seq)).setCell ⟨g5, 4, none⟩ (.string p.digest)).setCell ⟨g5, 5, none⟩ (.string p.batch)).setCell ⟨g5, 6, none⟩ (.int .i64 p.m.frm)).setCell ⟨g5, 7, none⟩ (.string p.m.body)).setCell ⟨g5, 8, none⟩ (.string p.m.sig))) := Lib.hid (below_nine (below_next hb.out h5r.out) (by rw [HG.out, ← hg5.out]; exact Nat.le_succ _) _ _ _ _ _ _ _ _ _)
              have HSz : Hid (wy.heap.size ≤ ((((((((((w5.setCell ⟨g5, 0, none⟩ (.int .i64 p.kind)).setCell ⟨g5, 1, none⟩ (.int .i64 p.frm)).setCell ⟨g5, 2, none⟩ (.int .i64 p.view)).setCell ⟨g5, 3, none⟩ (.int .i64 p.seq)).setCell ⟨g5, 4, none⟩ (.string p.digest)).setCell ⟨g5, 5, none⟩ (.string p.batch)).setCell ⟨g5, 6, none⟩ (.int .i64 p.m.frm)).setCell ⟨g5, 7, none⟩ (.string p.m.body)).setCell ⟨g5, 8, none⟩ (.string p.m.sig))).heap.size) := Lib.hid (by simp; exact Nat.le_trans hsz.out h5r.out.size)
              generalize World.setCell _ _ _ = w6 at HB5' HB1' HMp HBw HSz ⊢
              obtain ⟨c0, c1, c2, c3, c4⟩ : w6.cell? ⟨g1, 0, none⟩ = some (.int .i64 (n : Int)) ∧ w6.cell? ⟨g1, 1, none⟩ = some (.int .i64 v) ∧ w6.cell? ⟨g1, 2, none⟩ = some (.int .i64 lo) ∧ w6.cell? ⟨g1, 3, none⟩ = some (.slice A m cA) ∧ w6.cell? ⟨g1, 4, none⟩ = some (.slice B k cB) := ⟨HB1'.out.cell 0, HB1'.out.cell 1, HB1'.out.cell 2, HB1'.out.cell 3, HB1'.out.cell 4⟩
              go_wp2_with (first
                | (go_at_call 56; (with_reducible refine (HQ.out _).mono ?_); rintro e w7 ⟨rfl, hh⟩; have Hb7 := Lib.hid hh; clear hh))
              go_roundg (n + 1 - (i + 1))
              case measure => omega
              case rel =>
                refine ⟨i + 1, some ⟨bq, oq, none⟩, c', q, (y.grp p.seq p.digest n).take q, p, rfl, by omega, by go_num, rfl, Lib.hid (by rw [List.length_take, hgl.out]; omega), Lib.hid ⟨gl, c', y.grp p.seq p.digest n, q, ?_, hgl.out, hqc, rfl⟩, Lib.hid (.inr ⟨i, p, hlt, hlaH.out, ?_, by rw [hgl.out]; exact hqc, rfl, rfl, rfl⟩), Lib.hid (HB1'.out.below Hb7.out HB1'.out.lt), Lib.hid (HB5'.out.below Hb7.out HB5'.out.lt), Lib.hid (below_next HBw.out Hb7.out), Lib.hid (Nat.le_trans HSz.out Hb7.out.size)⟩
                · exact (HMp.out.below Hb7.out).base3 (Nat.le_trans hsz.out hb4.out.size)
                · rw [hl.out]; have := s1H.out; omega
            · have hqI : ¬ (q : Int) ≤ (gl : Int) := by omega
              have hz := Lib.hid (show ∀ z, y.last (i : Int) = some z → z.seq ≤ y.low ∨ z.seq ≤ bt.seq ∨ (y.grp z.seq z.digest n).length < q from fun z hz => by rw [hlaH.out] at hz; cases hz; exact .inr (.inr (by rw [hgl.out]; omega)))
              go_wp2_with (first
                | (go_at_call 56; (with_reducible refine (HQ.out _).mono ?_); rintro e w5 ⟨rfl, hh⟩; have Hb5 := Lib.hid (below_next hbjr.out hh); clear hh))
              go_roundg (n + 1 - (i + 1))
              case measure => omega
              case rel => exact hkeep.out _ Hb5.out hz.out
    · obtain rfl : i = n := by omega
      clear hlt i0
      obtain ⟨⟨-, -, -, b3, b4, -, -, -, -⟩, -⟩ := HB.out wr (Below.refl _ _)
      go_upto_region 18 with (fail)
      go_quiet (fail)
      generalize hwy : World.drewN _ _ = wq
      have hbq : Hid (Below wr.heap.size wr wq) := Lib.hid (by rw [← hwy]; exact below_self _ _)
      clear hwy
      go_wp2
      go_ret3
      exact tellsStable hml.out hst.out (hsm.out.below hbq.out).srow (below_next hb.out hbq.out)
end Go.Proofs.Ytedndjbhgbdpoaa
