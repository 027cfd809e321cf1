/- Of reads what Bytes laid: the auction comes back. -/
import Derived.Test.YtccmafmeblojpaaRight
import Derived.Test.YtccmafmeblojpaaCat
import Derived.Test.YtccmafmeblojpaaGet
namespace Go.Proofs.Ytccmafmeblojpaa
open Go.RowKit
set_option linter.unusedVariables false
set_option linter.unusedSimpArgs false
theorem Mine.at1' {w0 w : World} {A : Option Addr} {c n : Nat} {xs : List Value} (h : Mine w0 w 1 (.slice A n c) n xs) (h0 : 0 < n) : ∃ g o, A = some ⟨g, o, none⟩ ∧ w0.heap.size ≤ g := by
  obtain ⟨g, o, e, h1, _⟩ := h.store h0
  exact ⟨g, o, e, h1⟩
def OfTo (w : World) (a : Auc) (e : Ending) (w' : World) : Prop := ∃ g gl, e = .returned (.tuple #[.pointer (some ⟨g, 0, none⟩), .int .i64 0]) ∧ Aw w w' g gl a
/-- The bidders as they are laid behind the six numbers. -/
theorem laid_at (a : Auc) {i : Nat} (h : i < a.l.length) : a.laid.getD (6 + 2 * i) 0 = (a.l.getD i (0, 0)).1 ∧ a.laid.getD (7 + 2 * i) 0 = (a.l.getD i (0, 0)).2 := by
  have key : ∀ (l : List (Int × Int)) (i : Nat), i < l.length → (l.flatMap fun p => [p.1, p.2]).getD (2 * i) 0 = (l.getD i (0, 0)).1 ∧ (l.flatMap fun p => [p.1, p.2]).getD (2 * i + 1) 0 = (l.getD i (0, 0)).2 := by
    intro l
    induction l with
    | nil => intro i hi; simp at hi
    | cons p l ih =>
      intro i hi
      cases i with
      | zero => exact ⟨rfl, rfl⟩
      | succ i =>
        have := ih i (by simpa using hi)
        rw [show 2 * (i + 1) = 2 * i + 1 + 1 from by omega]
        exact this
  have := key a.l i h
  unfold Auc.laid
  constructor
  · rw [List.getD_eq_getElem?_getD, List.getElem?_append_right (by simp <;> omega), ← List.getD_eq_getElem?_getD]
    show List.getD _ (6 + 2 * i - 6) 0 = _
    rw [show 6 + 2 * i - 6 = 2 * i from by omega]; exact this.1
  · rw [List.getD_eq_getElem?_getD, List.getElem?_append_right (by simp <;> omega), ← List.getD_eq_getElem?_getD]
    show List.getD _ (7 + 2 * i - 6) 0 = _
    rw [show 7 + 2 * i - 6 = 2 * i + 1 from by omega]; exact this.2
def layP (L : List (Int × Int)) (i : Nat) : List (Int × Int) := L.take i ++ List.replicate (L.length - i) (0, 0)
theorem layP_zero (L : List (Int × Int)) : layP L 0 = List.replicate L.length (0, 0) := by simp [layP]
theorem layP_all (L : List (Int × Int)) : layP L L.length = L := by simp [layP]
theorem layP_length (L : List (Int × Int)) {i : Nat} (h : i ≤ L.length) : (layP L i).length = L.length := by
  unfold layP; rw [List.length_append, List.length_take, List.length_replicate]; omega
theorem layP_set (L : List (Int × Int)) {i : Nat} (h : i < L.length) : (layP L i).set i (L.getD i (0, 0)) = layP L (i + 1) := by
  unfold layP
  rw [List.set_append_right _ _ (by rw [List.length_take]; omega), List.length_take, Nat.min_eq_left (by omega), Nat.sub_self]
  obtain ⟨m, hm⟩ : ∃ m, L.length - i = m + 1 := ⟨L.length - i - 1, by omega⟩
  rw [hm, List.replicate_succ, List.set_cons_zero, show L.length - (i + 1) = m from by omega, List.take_add_one, List.append_assoc]
  congr 1
  rw [List.getElem?_eq_getElem h, List.getD_eq_getElem?_getD, List.getElem?_eq_getElem h]
  rfl
theorem bcells_set_both (l : List (Int × Int)) {i : Nat} (h : i < l.length) (p : Int × Int) : ((bcells l).set (i * 2) (.int .i64 p.1)).set (i * 2 + 1) (.int .i64 p.2) = bcells (l.set i p) := by
  rw [bcells_set_was l h, bcells_set_now _ (by simpa using h), List.set_set]
  congr 2
  rw [List.getD_eq_getElem?_getD, List.getElem?_set_self h]
  rfl
theorem Blk.only' {w w' : World} {g : Nat} {t : TypeId} {cs : Array Value} {S : Nat → Prop} (h : Blk w g t cs) (ho : Only S w w') (h1 : ¬ S g) : Blk w' g t cs := (ho.block g h.lt h1).trans h
set_option maxHeartbeats 8000000 in
set_option maxRecDepth 100000 in
theorem of_calls (w : World) (a : Auc) (hr : a.Right) : Calls Try.prog 34 #[.string a.bytes] w (OfTo w a) := by
  have HR := Lib.hid hr
  have hlb := laid_bound hr.ok
  have hll := laid_length a
  obtain ⟨n, hn⟩ : ∃ n, Hid (a.l.length = n) := ⟨_, Lib.hid rfl⟩
  have hn16 := hr.ok.len.2
  have hn1 := hr.ok.len.1
  rw [hn.out] at hll hn16 hn1
  obtain ⟨L, hL⟩ : ∃ L, Hid (a.laid = L) := ⟨_, Lib.hid rfl⟩
  have hbs : a.bytes = catN L := by rw [← hL.out]; rfl
  rw [hL.out] at hlb hll
  have hsz := catN_size L hlb
  have HRD := Lib.hid (fun k (hk : k < L.length) => rd_laid hlb hk)
  have HSN := Lib.hid (fun k (hk : k < L.length) => size_next hk)
  have HSL := Lib.hid (fun k (hk : k < L.length) => size_lt hk)
  rw [hll] at HRD HSN HSL hsz
  have HLB := Lib.hid hlb
  have HLL := Lib.hid hll
  rw [hbs]
  have hsz2 : (catN L).size ≤ 400 := by omega
  have HG := Lib.hid (fun wx (at0 : Nat) ha => getInt_calls wx (catN L) at0 (by omega) ha)
  have hsz3 := Lib.hid hsz2
  obtain ⟨s, hs⟩ : ∃ s, Hid (catN L = s) := ⟨_, Lib.hid rfl⟩
  rw [hs.out] at HRD HSL HG hsz3 ⊢
  have hse : Hid ((catN (L.take (6 + 2 * n))).size = s.size) := Lib.hid (by rw [List.take_of_length_le (by rw [HLL.out]; exact Nat.le_refl _), hs.out])
  obtain ⟨i1, hi1, hy0, hy1, hy2⟩ := info_parts info_int
  have HI1 := Lib.hid hi1
  have HY0 := Lib.hid hy0
  have HY1 := Lib.hid hy1
  have HY2 := Lib.hid hy2
  obtain ⟨m, hm⟩ : ∃ m, Hid (6 + 2 * n = m) := ⟨_, Lib.hid rfl⟩
  rw [hm.out] at HRD HSN HSL hse
  have hm38 : m ≤ 38 := by rw [← hm.out]; omega
  clear hr hlb hll hsz hsz2 hbs hi1 hy0 hy1 hy2
  go_enter Try.func34, Try.ntmps34
  go_wp2
  go_loopg [4, 5] (m + 1) (fun gk s4 s5 wr => ∃ (k : Nat) (A : Option Addr) (c p : Nat), gk = m + 1 - k ∧ k ≤ m ∧ s5 = .int .i64 (p : Int) ∧ s4 = .slice A k c ∧ Hid (p = (catN (L.take k)).size) ∧ Hid (Mine w wr 1 (.slice A k c) k (icells (L.take k))) ∧ Hid (Below w.heap.size w wr))
  case atStart => exact ⟨0, none, 0, 0, rfl, Nat.zero_le _, rfl, rfl, Lib.hid rfl, Lib.hid (Mine.empty _ _ _ _), Lib.hid (Below.refl _ _)⟩
  case round =>
    obtain ⟨k, A, c, p, rfl, hk, rfl, rfl, hp, hM, hb⟩ := hrel
    have p0 : (0 : Int) ≤ (p : Int) := by omega
    have k0 : (0 : Int) ≤ (k : Int) := by omega
    by_cases hlt : k < m
    · have hps : p < s.size := by rw [hp.out]; exact HSL.out k hlt
      have hpI : (p : Int) < (s.size : Int) := by omega
      have hrd := HRD.out k hlt
      have hsn := HSN.out k hlt
      rw [← hp.out] at hrd hsn
      have HGx := Lib.hid (HG.out wr p (by omega))
      unfold GetTo at HGx
      rw [hrd] at HGx
      simp only at HGx
      have hkl : k < L.length := by rw [HLL.out, hm.out]; exact hlt
      obtain ⟨v0, v1⟩ := HLB.out (L.getD k 0) (by rw [List.getD_eq_getElem?_getD, List.getElem?_eq_getElem hkl]; exact List.getElem_mem hkl)
      have htk : Hid (L.take (k + 1) = L.take k ++ [L.getD k 0]) := Lib.hid (by rw [List.take_add_one, List.getD_eq_getElem?_getD, List.getElem?_eq_getElem hkl]; rfl)
      have hv : ((L.getD k 0).toNat : Int) = L.getD k 0 := by omega
      rw [hv] at HGx
      obtain ⟨q, hq⟩ : ∃ q, Hid (p + (num (L.getD k 0).toNat).length = q) := ⟨_, Lib.hid rfl⟩
      rw [hq.out] at HGx hsn
      have hsn' := Lib.hid hsn
      have hk38 : (k : Int) ≤ 38 := by omega
      have hA1 : Hid (k + 1 ≤ maxLen) := Lib.hid (by unfold maxLen; omega)
      have hA2 : Hid ((k + 1) * 8 ≤ 140737488355328) := Lib.hid (by omega)
      have hA3 : Hid (∀ x, ∀ u ∈ [Value.int .i64 x], u.oneCell' = true) := Lib.hid fun x => by simp [Value.oneCell']
      generalize L.getD k 0 = v at HGx htk v0 v1
      clear hrd hsn hkl hv hps
      go_wp2_with (first
        | (go_at_call 45; (with_reducible refine (HGx.out).mono ?_); rintro e w1 ⟨hh, rfl⟩; have hM1 := Lib.hid (hM.out.below hh); have hb1 := Lib.hid (below_next hb.out hh); clear hh)
        | (refine wpList_append_mine rfl (.tmp 30) (.tmp 32) 22 22 rfl 3 i1 (.int .i64 0) 8 Try.underlying22 HI1.out HY0.out HY1.out HY2.out rfl (by decide) rfl (hM1.out.alloc _) (hb1.out.alloc hb1.out.size _) _ 1 [.int .i64 v] rfl (src_new Try.underlying22 _ _ _ 1 1 rfl (hA3.out _)) hA1.out hA2.out ?_; intro A2 c2 w2 hm2 hb2; have HM2 := Lib.hid hm2; have HB2 := Lib.hid hb2; clear hm2 hb2))
      go_roundg (m + 1 - (k + 1))
      case measure => omega
      case rel => exact ⟨k + 1, A2, c2, q, rfl, by omega, rfl, rfl, hsn', Lib.hid (by rw [htk.out, icells_append]; exact HM2.out), HB2⟩
    · obtain rfl : m = k := by omega
      have hpe : p = s.size := hp.out.trans hse.out
      have hpI : ¬ (p : Int) < (s.size : Int) := by omega
      have hLt : Hid (L.take m = L) := Lib.hid (List.take_of_length_le (by rw [HLL.out, hm.out]; exact Nat.le_refl _))
      rw [hLt.out] at hM
      have hm6 : 8 ≤ m := by rw [← hm.out]; omega
      obtain ⟨go, oo, rfl, hgo⟩ := hM.out.at1' (by omega)
      have hpe' := Lib.hid hpe
      have hm38' := Lib.hid hm38
      have hm6' := Lib.hid hm6
      have HIR : Hid (IRow wr (some ⟨go, oo, none⟩) L) := Lib.hid hM.out.irow
      have hgol : Hid (go < wr.heap.size) := Lib.hid (by
        obtain ⟨b', o', e, h1, _⟩ := Row.at_ HIR.out (k := 0) (by rw [HLL.out, hm.out]; omega)
        cases e; exact h1)
      have HCl : Hid (∀ wx : World, wx.heap[go]? = wr.heap[go]? → ∀ j, j < m → wx.cell? ⟨go, oo + j, none⟩ = some (.int .i64 (L.getD j 0))) := Lib.hid fun wx hx j hj => by
        rw [World.cell?_of_block (a := ⟨go, oo + j, none⟩) hx]
        exact IRow.cell HIR.out (by rw [HLL.out, hm.out]; exact hj)
      have L0 : L.getD 0 0 = a.supply := by rw [← hL.out]; rfl
      have L1 : L.getD 1 0 = a.start := by rw [← hL.out]; rfl
      have L2 : L.getD 2 0 = a.step := by rw [← hL.out]; rfl
      have L3 : L.getD 3 0 = a.round := by rw [← hL.out]; rfl
      have L4 : L.getD 4 0 = a.state := by rw [← hL.out]; rfl
      have L5 : L.getD 5 0 = (n : Int) := by rw [← hL.out, ← hn.out]; rfl
      have HC6 : Hid (∀ wx : World, wx.heap[go]? = wr.heap[go]? → wx.cell? ⟨go, oo, none⟩ = some (.int .i64 a.supply) ∧ wx.cell? ⟨go, oo + 1, none⟩ = some (.int .i64 a.start) ∧ wx.cell? ⟨go, oo + 2, none⟩ = some (.int .i64 a.step) ∧ wx.cell? ⟨go, oo + 3, none⟩ = some (.int .i64 a.round) ∧ wx.cell? ⟨go, oo + 4, none⟩ = some (.int .i64 a.state) ∧ wx.cell? ⟨go, oo + 5, none⟩ = some (.int .i64 (n : Int))) := Lib.hid fun wx hx => by
        have h := HCl.out wx hx
        exact ⟨by rw [← L0]; exact h 0 (by omega), by rw [← L1]; exact h 1 (by omega), by rw [← L2]; exact h 2 (by omega), by rw [← L3]; exact h 3 (by omega), by rw [← L4]; exact h 4 (by omega), by rw [← L5]; exact h 5 (by omega)⟩
      have HNew : Hid (∀ wx, Calls Try.prog 18 #[.int .i64 a.supply, .int .i64 a.start, .int .i64 a.step, .int .i64 (n : Int)] wx fun e w' => ∃ g gl, e = .returned (.tuple #[.pointer (some ⟨g, 0, none⟩), .int .i64 0]) ∧ Aw wx w' g gl (Auc.fresh a.supply a.start a.step n)) := Lib.hid fun wx => by
        have hok := HR.out.ok
        exact Aw.new wx a.supply a.start a.step n hok.supply hok.start hok.step (by omega)
      have hmI := Lib.hid (show (m : Int) = 6 + 2 * (n : Int) from by rw [← hm.out]; push_cast; rfl)
      have t1 : decide ((m : Int) < 6) = false := by simp; omega
      have t2 : (m : Int).tmod 2 = 0 := Int.tmod_eq_zero_of_dvd (by have := hmI.out; omega)
      have t3 : IntKind.i64.wrap ((m : Int) - 6) = 2 * (n : Int) := by rw [IntKind.wrap_i64]; have := hmI.out; omega
      have t4 : (2 * (n : Int)).tdiv 2 = (n : Int) := by rw [Int.tdiv_eq_ediv_of_nonneg (by omega)]; omega
      have t5 : (5 : Int) < (m : Int) := by omega
      have t6 : (0 : Int) < (m : Int) := by omega
      have t7 : (1 : Int) < (m : Int) := by omega
      have t8 : (2 : Int) < (m : Int) := by omega
      have t9 : (3 : Int) < (m : Int) := by omega
      have t10 : (4 : Int) < (m : Int) := by omega
      have t11 : 0 < m := by omega
      obtain ⟨-, -, -, -, -, d5⟩ := HC6.out wr rfl
      clear hlt hpe L0 L1 L2 L3 L4 L5 hm6 hm38
      go_upto_region 11 with (fail)
      have Hd0 : Hid (Below wr.heap.size wr wr.drew) := Lib.hid (Below.refl _ _).drew
      have HSx : Hid (∀ wx, Below wr.heap.size wr wx → (wx.cell? ⟨go, oo, none⟩ = some (.int .i64 a.supply) ∧ wx.cell? ⟨go, oo + 1, none⟩ = some (.int .i64 a.start) ∧ wx.cell? ⟨go, oo + 2, none⟩ = some (.int .i64 a.step) ∧ wx.cell? ⟨go, oo + 5, none⟩ = some (.int .i64 (n : Int)))) := Lib.hid fun wx hh => by
        obtain ⟨d0, d1, d2, _, _, d5⟩ := HC6.out wx (hh.block go hgol.out)
        exact ⟨d0, d1, d2, d5⟩
      clear d5 t1 t2 t3 t4
      go_region_held3 (fun wx => (wx.cell? ⟨go, oo, none⟩ = some (.int .i64 a.supply) ∧ wx.cell? ⟨go, oo + 1, none⟩ = some (.int .i64 a.start) ∧ wx.cell? ⟨go, oo + 2, none⟩ = some (.int .i64 a.step) ∧ wx.cell? ⟨go, oo + 5, none⟩ = some (.int .i64 (n : Int))))
        (first | (with_reducible exact HSx.out _ Hd0.out) | (with_reducible exact HSx.out _ hb7.out) | fail)
        (first
          | (go_at_call 18; (with_reducible refine (HNew.out _).mono ?_); rintro e w7 ⟨g, gl, rfl, hh⟩; have HA := Lib.hid hh; have hb7 : Hid (Below wr.heap.size wr w7) := Lib.hid (below_next Hd0.out hh.all); clear hh))
      have hb7w := Lib.hid (below_next hb.out hb7.out)
      have hgg : Hid (wr.heap.size ≤ g ∧ wr.heap.size ≤ gl) := Lib.hid ⟨HA.out.head, HA.out.list⟩
      have hgo7 : Hid (w7.heap[go]? = wr.heap[go]?) := Lib.hid (hb7.out.block go hgol.out)
      obtain ⟨-, -, -, d3, d4, -⟩ := HC6.out w7 hgo7.out
      have hfl : (Auc.fresh a.supply a.start a.step n).l.length = n := List.length_replicate
      have B7 : Hid (Blk w7 g 67 #[.int .i64 a.supply, .int .i64 a.start, .int .i64 a.step, .int .i64 1, .int .i64 0, .slice (some ⟨gl, 0, none⟩) n n]) := Lib.hid (by
        have := HA.out.at_.head
        unfold acells at this
        rw [hfl] at this
        exact this)
      have BL7 : Hid (Blk w7 gl 69 (bcells (layP a.l 0)).toArray) := Lib.hid (by
        rw [layP_zero, hn.out]; exact HA.out.at_.list)
      have hne : Hid (g ≠ gl) := Lib.hid HA.out.at_.ne
      have f3 := B7.out.frozen 3
      have f4 := B7.out.frozen 4
      have b3 : w7.cell? ⟨g, 3, none⟩ = some (.int .i64 1) := B7.out.cell 3
      have b4 : w7.cell? ⟨g, 4, none⟩ = some (.int .i64 0) := B7.out.cell 4
      have hgog : ¬ go = g := by have := hgg.out; have := hgol.out; omega
      have hgog2 : ¬ g = go := fun e => hgog e.symm
      go_upto_region 14 with (fail)
      have E0 : Hid (Blk ((w7.setCell ⟨g, 3, none⟩ (.int .i64 a.round)).setCell ⟨g, 4, none⟩ (.int .i64 a.state)).drew g 67 (acells a gl)) := Lib.hid (by
        have := ((B7.out.set_ 3 (.int .i64 a.round)).set_ 4 (.int .i64 a.state)).drew
        unfold acells
        rw [hn.out]
        exact this)
      have E1 : Hid (Blk ((w7.setCell ⟨g, 3, none⟩ (.int .i64 a.round)).setCell ⟨g, 4, none⟩ (.int .i64 a.state)).drew gl 69 (bcells (layP a.l 0)).toArray) := Lib.hid ((BL7.out.far (b := g) (j := 3) (fun e => hne.out e.symm) _).far (b := g) (j := 4) (fun e => hne.out e.symm) _).drew
      have E2 : Hid (((w7.setCell ⟨g, 3, none⟩ (.int .i64 a.round)).setCell ⟨g, 4, none⟩ (.int .i64 a.state)).drew.heap[go]? = wr.heap[go]?) := Lib.hid (by
        show ((w7.setCell ⟨g, 3, none⟩ (.int .i64 a.round)).setCell ⟨g, 4, none⟩ (.int .i64 a.state)).heap[go]? = _
        rw [heap_setCell_other _ ⟨g, 4, none⟩ go _ hgog, heap_setCell_other _ ⟨g, 3, none⟩ go _ hgog]
        exact hgo7.out)
      have E3 : Hid (Below w.heap.size w ((w7.setCell ⟨g, 3, none⟩ (.int .i64 a.round)).setCell ⟨g, 4, none⟩ (.int .i64 a.state)).drew) := Lib.hid (by
        have hgw : w.heap.size ≤ g := by have := hgg.out; have := hb.out.size; omega
        exact ((hb7w.out.setCell (p := ⟨g, 3, none⟩) hgw _).setCell (p := ⟨g, 4, none⟩) hgw _).drew)
      have E4 : Hid (go < ((w7.setCell ⟨g, 3, none⟩ (.int .i64 a.round)).setCell ⟨g, 4, none⟩ (.int .i64 a.state)).drew.heap.size) := Lib.hid (by have h1 := hb7.out.size; have h2 := hgol.out; simp; omega)
      go_region
      clear d3 d4 b3 b4 f3 f4
      generalize World.drew _ = w8 at E0 E1 E2 E3 E4 ⊢
      have c5 : w8.cell? ⟨g, 5, none⟩ = some (.slice (some ⟨gl, 0, none⟩) n n) := by
        have := E0.out.cell 5
        unfold acells at this
        rw [hn.out] at this
        exact this
      go_wp2
      clear c5
      have hglw : Hid (w.heap.size ≤ gl ∧ w.heap.size ≤ g ∧ go ≠ gl) := Lib.hid (by have := hgg.out; have := hb.out.size; have := hgol.out; omega)
      clear hgog hgog2
      go_loopg [89] (n + 1) (fun gk s89 wr => ∃ i, gk = n + 1 - i ∧ i ≤ n ∧ s89 = .int .i64 (i : Int) ∧ Hid (Only (fun b => b = gl) w8 wr) ∧ Hid (Blk wr gl 69 (bcells (layP a.l i)).toArray))
      case atStart => exact ⟨0, rfl, Nat.zero_le _, rfl, Lib.hid (Only.refl _ _), E1⟩
      case round =>
        clear E1
        obtain ⟨i, rfl, hi, rfl, hO, hBl⟩ := hrel
        have i0 : (0 : Int) ≤ (i : Int) := by omega
        have Bh := Lib.hid (E0.out.only' hO.out hne.out)
        have hgoi := Lib.hid ((hO.out.block go E4.out hglw.out.2.2).trans E2.out)
        by_cases hlt : i < n
        · have hltI : (i : Int) < (n : Int) := by omega
          have hl : i < a.l.length := by rw [hn.out]; exact hlt
          obtain ⟨p1e, p2e⟩ := laid_at a hl
          rw [hL.out] at p1e p2e
          have hm6i : 6 + 2 * i < m := by rw [← hm.out]; omega
          have hm7i : 7 + 2 * i < m := by rw [← hm.out]; omega
          have x1 := HCl.out _ hgoi.out (6 + 2 * i) hm6i
          have x2 := HCl.out _ hgoi.out (7 + 2 * i) hm7i
          rw [p1e] at x1
          rw [p2e] at x2
          have hset := Lib.hid (layP_set a.l hl)
          have hll := Lib.hid (layP_length a.l (Nat.le_of_lt hl))
          have hbb := Lib.hid (bcells_set_both (layP a.l i) (i := i) (by rw [hll.out]; exact hl) (a.l.getD i (0, 0)))
          have hk0 : ((bcells (layP a.l i)).toArray)[i * 2]? = some (.int .i64 ((layP a.l i).getD i (0, 0)).1) := by rw [List.getElem?_toArray]; exact bcells_was _ (by rw [hll.out]; exact hl)
          have hk1 : ((bcells (layP a.l i)).toArray)[i * 2 + 1]? = some (.int .i64 ((layP a.l i).getD i (0, 0)).2) := by rw [List.getElem?_toArray]; exact bcells_now _ (by rw [hll.out]; exact hl)
          have y0 := (hBl.out.cell (i * 2)).trans hk0
          have y1 := (hBl.out.cell (i * 2 + 1)).trans hk1
          have fz0 := hBl.out.frozen (i * 2)
          have fz1 := hBl.out.frozen (i * 2 + 1)
          have hnew : Hid (∀ wq, Blk wq gl 69 (bcells (layP a.l i)).toArray → Blk ((wq.setCell ⟨gl, i * 2, none⟩ (.int .i64 (a.l.getD i (0, 0)).1)).setCell ⟨gl, i * 2 + 1, none⟩ (.int .i64 (a.l.getD i (0, 0)).2)) gl 69 (bcells (layP a.l (i + 1))).toArray) := Lib.hid fun wq hq => by
            have := (hq.set_ (i * 2) (.int .i64 (a.l.getD i (0, 0)).1)).set_ (i * 2 + 1) (.int .i64 (a.l.getD i (0, 0)).2)
            rw [List.setIfInBounds_toArray, List.setIfInBounds_toArray, hbb.out, hset.out] at this
            exact this
          have c5' := Bh.out.cell 5
          unfold acells at c5'
          rw [hn.out] at c5'
          obtain ⟨wi, hwi⟩ : ∃ wi : World, wi = wr := ⟨_, rfl⟩
          rw [← hwi] at c5' ⊢
          have c5 : wi.cell? ⟨g, 5, none⟩ = some (.slice (some ⟨gl, 0, none⟩) n n) := c5'
          rw [← hwi] at x1 x2 y0 y1 fz0 fz1 hBl hO
          clear c5' hwi
          have z1 : (6 : Int) + 2 * (i : Int) < (m : Int) := by omega
          have z2 : (7 : Int) + 2 * (i : Int) < (m : Int) := by omega
          generalize (a.l.getD i (0, 0)).1 = p1 at x1 hnew
          generalize (a.l.getD i (0, 0)).2 = p2 at x2 hnew
          generalize ((layP a.l i).getD i (0, 0)).1 = o1 at y0 
          generalize ((layP a.l i).getD i (0, 0)).2 = o2 at y1
          have hgl1 := hne.out
          have hgl2 := hglw.out.2.2
          clear hl p1e p2e hk0 hk1
          go_upto_region 18 with (fail)
          go_region
          go_wp2
          go_roundg (n + 1 - (i + 1))
          case measure => omega
          case rel => exact ⟨i + 1, rfl, by omega, by go_num, Lib.hid (((hO.out.setCell (.inl rfl) _).setCell (.inl rfl) _).drewN 1), Lib.hid (hnew.out _ hBl.out).drew⟩
        · obtain rfl : n = i := by omega
          have hlast : Hid (layP a.l n = a.l) := Lib.hid (by have := layP_all a.l; rwa [hn.out] at this)
          rw [hlast.out] at hBl
          have hAt := Lib.hid (show AtA _ g gl a from ⟨Bh.out, hBl.out, hne.out, HR.out.ok⟩)
          have hBw : Hid (Below w.heap.size w _) := Lib.hid (E3.out.trans (hO.out.below E3.out.size fun k hk => by rw [hk]; exact hglw.out.1))
          have HRt := Lib.hid (right_true _ g gl a hAt.out HR.out)
          go_wp2_with (first
            | (go_at_call 46; (with_reducible refine (HRt.out).mono ?_); rintro e w9 ⟨rfl, hh⟩; have hb9 := Lib.hid hh; clear hh))
          go_ret2
          exact ⟨g, gl, rfl, hAt.out.below hb9.out, HR.out.fair, hglw.out.2.1, hglw.out.1, below_next hBw.out hb9.out⟩
end Go.Proofs.Ytccmafmeblojpaa
