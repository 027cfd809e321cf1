/- The contract of Stable: the highest checkpoint that as many agree on as must. -/
import Derived.Test.YtedndjbhgbdpoaaVlE
namespace Go.Proofs.Ytedndjbhgbdpoaa
open Go.RowKit Go.Maps Go.ChangeMaps Go.MapKept Go.WideShapes
namespace Vl
def agrees (l : Vl) (s : Int) (r : ByteArray) (i : Int) : Option Sg :=
  match l.marks i with
  | some y => if y.seq = s ∧ y.root = r then some y.m else Option.none
  | Option.none => Option.none
def grp (l : Vl) (s : Int) (r : ByteArray) (k : Nat) : List Sg := (List.range k).filterMap fun (i : Nat) => l.agrees s r (i : Int)
theorem grp_snoc (l : Vl) (s : Int) (r : ByteArray) (i : Nat) : l.grp s r (i + 1) = l.grp s r i ++ (match l.agrees s r (i : Int) with | some x => [x] | Option.none => []) := by
  unfold grp
  rw [List.range_succ, List.filterMap_append]
  cases h : l.agrees s r (i : Int) <;> simp [h]
theorem grp_le (l : Vl) (s : Int) (r : ByteArray) (i : Nat) : (l.grp s r i).length ≤ i := by
  unfold grp
  have := List.length_filterMap_le (fun (i : Nat) => l.agrees s r (i : Int)) (List.range i)
  rwa [List.length_range] at this
/-- What is told of what is stable. -/
def StableIs (l : Vl) (S : Int) (R : ByteArray) (L : List Sg) : Prop :=
  (S = 0 ∧ R = noText ∧ L = [] ∧ ∀ i mk, l.marks i = some mk → l.low < mk.seq → ((l.grp mk.seq mk.root l.n.toNat).length : Int) < l.quorum) ∨
  ∃ i mk, l.marks i = some mk ∧ l.low < mk.seq ∧ l.quorum ≤ ((l.grp mk.seq mk.root l.n.toNat).length : Int) ∧ S = mk.seq ∧ R = mk.root ∧ L = (l.grp mk.seq mk.root l.n.toNat).take l.quorum.toNat
/-- Where the loop stands: the keys that are left are still to come. -/
def StAt (l : Vl) (left : Lit → Bool) (S : Int) (R : ByteArray) (L : List Sg) : Prop :=
  (S = 0 ∧ R = noText ∧ L = [] ∧ ∀ i mk, l.marks i = some mk → l.low < mk.seq → left (.int .i64 i) = false → ((l.grp mk.seq mk.root l.n.toNat).length : Int) < l.quorum) ∨
  ∃ i mk, l.marks i = some mk ∧ l.low < mk.seq ∧ l.quorum ≤ ((l.grp mk.seq mk.root l.n.toNat).length : Int) ∧ S = mk.seq ∧ R = mk.root ∧ L = (l.grp mk.seq mk.root l.n.toNat).take l.quorum.toNat
theorem StAt.done {l : Vl} {left : Lit → Bool} {S : Int} {R : ByteArray} {L : List Sg} (h : l.StAt left S R L) (hl : ∀ kl, left kl = false) : l.StableIs S R L := by
  rcases h with ⟨h1, h2, h3, h4⟩ | h
  · exact .inl ⟨h1, h2, h3, fun i mk h5 h6 => h4 i mk h5 h6 (hl _)⟩
  · exact .inr h
/-- One that is not above what was found, or that too few agree on. -/
theorem StAt.skip {l : Vl} (h0 : 0 ≤ l.low) {left : Lit → Bool} {S : Int} {R : ByteArray} {L : List Sg} (h : l.StAt left S R L) {x : Int} {mk : Mk} (hx : l.marks x = some mk) (hs : mk.seq ≤ S ∨ mk.seq ≤ l.low ∨ ((l.grp mk.seq mk.root l.n.toNat).length : Int) < l.quorum) : l.StAt (fun z => left z && !z.sameKey (.int .i64 x)) S R L := by
  rcases h with ⟨h1, h2, h3, h4⟩ | h
  · refine .inl ⟨h1, h2, h3, fun i mk' h5 h6 h7 => ?_⟩
    by_cases e : i = x
    · subst e
      rw [hx] at h5
      cases h5
      rcases hs with hs | hs | hs
      · omega
      · omega
      · exact hs
    · refine h4 i mk' h5 h6 ?_
      have hne : (Lit.int .i64 i).sameKey (.int .i64 x) = false := by
        simp [Lit.sameKey]; exact e
      simpa [hne] using h7
  · exact .inr h
theorem StAt.found {l : Vl} {left : Lit → Bool} {x : Int} {mk : Mk} (hx : l.marks x = some mk) (h1 : l.low < mk.seq) (h2 : l.quorum ≤ ((l.grp mk.seq mk.root l.n.toNat).length : Int)) : l.StAt left mk.seq mk.root ((l.grp mk.seq mk.root l.n.toNat).take l.quorum.toNat) := .inr ⟨x, mk, hx, h1, h2, rfl, rfl, rfl⟩
theorem StAt.bound {l : Vl} {left : Lit → Bool} {S : Int} {R : ByteArray} {L : List Sg} (h : l.StAt left S R L) : S = 0 ∨ l.low < S := by
  rcases h with ⟨h1, _⟩ | ⟨i, mk, _, h1, _, h2, _⟩
  · exact .inl h1
  · rw [h2]; exact .inr h1
end Vl
theorem SRow.below {w w' : World} {A : Option Addr} {L : List Sg} (h : SRow w A L) (hb : Below w.heap.size w w') : SRow w' A L := Row.below h hb
theorem Mine.srow {w0 w : World} {A : Option Addr} {c m q : Nat} {L : List Sg} (h : Mine w0 w 3 (.slice A m c) m (scells L)) (hm : L.length = m) (hq : q ≤ m) : m ≤ c ∧ SRow w A (L.take q) := by
  obtain ⟨A', c', e, h1, _, h3⟩ := h.row
  cases e
  refine ⟨h1, ?_⟩
  have hlen : (L.take q).length = q := by rw [List.length_take]; omega
  unfold SRow
  rw [hlen]
  rcases h3 with h3 | ⟨b, o, e, h4, h5⟩
  · left; omega
  · refine .inr ⟨b, o, e, h4, fun j hj => ?_⟩
    show w.cell? ⟨b, o + j, none⟩ = some ((scells (L.take q)).getD j (.bool false))
    rw [scells_take L q j hj]
    exact h5 j (by omega)
theorem grown_of_below {w w' : World} (hb : Below w.heap.size w w') : w.grownBy w' none := ⟨hb.os, hb.tape, hb.output, hb.size, fun i hi _ => hb.block i hi⟩
theorem below_of_grown {w0 w w' : World} {r : Nat} (h : Below w0.heap.size w0 w) (hg : w.grownBy w' (some r)) (hr : w0.heap.size ≤ r) : Below w0.heap.size w0 w' :=
  h.trans ((Only.of_grown hg).below h.size fun b e => by have e' : b = r := Option.some.inj e; omega)
theorem held_inv (v : Value) (y : DataW Value × List MemPlace) (_h : heldAs v = some y) : ∃ c, v = id c := ⟨v, rfl⟩
theorem key_inv (key : Value) (kl : Lit) (h : keyOf Try.prog 3 key = some kl) : ∃ x, key = Value.int .i64 x := by
  obtain ⟨x, e, _⟩ := keyOf_int_inv Try.underlying3 h
  exact ⟨x, e⟩
theorem srow_iter {w w' : World} {A : Option Addr} {L : List Sg} {b r n ct : Nat} {k : TypeId} {D : DataW Value} {left : Lit → Bool} (h : SRow w A L) (hr : w.ranges Try.prog k heldAs b r n D left ct) (hg : w.grownBy w' (some r)) : SRow w' A L := by
  rcases h with h | ⟨b', o, e, h4, h5⟩
  · exact .inl h
  · by_cases hz : L.length * 3 = 0
    · exact .inl hz
    · refine .inr ⟨b', o, e, Nat.lt_of_lt_of_le h4 hg.size, fun j hj => ?_⟩
      rw [← h5 j hj]
      refine World.cell?_of_block (hg.block b' h4 fun e2 => ?_)
      cases e2
      have hc := h5 0 (by omega)
      obtain ⟨es, clock, since, seen, c0, _, _, _, _, h7, _⟩ := hr
      simp [World.cell?, h7] at hc
/-- What Stable tells. -/
def StableTo (l : Vl) (w0 : World) (e : Ending) (w' : World) : Prop := ∃ S R L A c, e = .returned (.tuple #[.int .i64 S, .string R, .slice A L.length c]) ∧ l.StableIs S R L ∧ SRow w' A L ∧ Below w0.heap.size w0 w'
theorem stableTo {l : Vl} {w0 w' : World} {S : Int} {R : ByteArray} {L : List Sg} {A : Option Addr} {m c : Nat} (hm : L.length = m) (h1 : l.StableIs S R L) (h2 : SRow w' A L) (h3 : Below w0.heap.size w0 w') : StableTo l w0 (.returned (.tuple #[.int .i64 S, .string R, .slice A m c])) w' := ⟨S, R, L, A, c, by rw [hm], h1, h2, h3⟩
set_option maxHeartbeats 8000000 in
set_option maxRecDepth 100000 in
theorem stable_calls {w : World} {g gm : Nat} {gv : Nat → Nat → Option Nat} {kv : Nat → Value} {l : Vl} (h : AtV w g gm gv kv l) : Calls Try.prog 28 #[.pointer (some ⟨g, 0, none⟩)] w (StableTo l w) := by
  have H := Lib.hid h
  obtain ⟨D, hD1, hD2, hD3⟩ := h.marks
  have HD3 := Lib.hid hD3
  obtain ⟨-, -, -, c107⟩ := h.head
  have hlow := h.ok.low
  have hn13 : Hid (l.n ≤ 13 ∧ 0 ≤ l.n) := Lib.hid (by have := h.ok.n; omega)
  obtain ⟨n, hnn⟩ : ∃ n : Nat, Hid (l.n.toNat = n) := ⟨_, Lib.hid rfl⟩
  have hnI : Hid (l.n = (n : Int)) := Lib.hid (by have := hn13.out; have := hnn.out; omega)
  have hn13' : n ≤ 13 := by have := hn13.out; have := hnn.out; omega
  obtain ⟨q, hq, hq3, hq9, hqn⟩ := Vl.quorum_some h.ok
  have HQ : Hid (∀ wx, Below w.heap.size w wx → Calls Try.prog 42 #[.pointer (some ⟨g, 0, none⟩)] wx fun e w' => e = .returned (.int .i64 (q : Int)) ∧ ∃ d, w' = wx.drewN d) := Lib.hid fun wx hx => by
    have := quorum_calls (H.out.below hx)
    rw [hq] at this
    exact this
  have hqe := Lib.hid hq
  obtain ⟨lo, hlo⟩ : ∃ lo, Hid (l.low = lo) := ⟨_, Lib.hid rfl⟩
  rw [hlo.out] at hlow
  obtain ⟨hlow0, hlow1⟩ := hlow
  have HCells : Hid (∀ wx, Below w.heap.size w wx → wx.cell? ⟨g, 0, none⟩ = some (.int .i64 (n : Int)) ∧ wx.cell? ⟨g, 2, none⟩ = some (.int .i64 lo) ∧ wx.cell? ⟨g, 107, none⟩ = some (.map (some gm))) := Lib.hid fun wx hx => by
    obtain ⟨a0, a1, a2, a3⟩ := (H.out.below hx).head
    rw [hnI.out] at a0
    rw [hlo.out] at a2
    exact ⟨a0, a2, a3⟩
  have HLk : Hid (∀ (i : Nat) wx, i < 13 → Below w.heap.size w wx → (Instr.lookup 73 (.map (some gm)) (.int .i64 (i : Int)) true).run Try.prog wx = .ok (.tuple #[((l.marks (i : Int)).getD Mk.zero).val, .bool (l.marks (i : Int)).isSome]) wx) := Lib.hid fun i wx hi hx => by
    have := (H.out.below hx).lookMark (i : Int) (wf64 (by omega)) true
    simpa using this
  have HSt0 : Hid (l.StAt (Maps.has D) 0 noText []) := Lib.hid (.inl ⟨rfl, rfl, rfl, fun i mk h1 _ h3 => by
    exfalso
    have hi := h.ok.marks i (by rw [h1]; exact Option.some_ne_none _)
    have := hD3 i (wf64 (by have := hn13.out; omega))
    unfold marksOf at this
    rw [h1] at this
    rw [has_true_of_atKey this] at h3
    cases h3⟩)
  have hgm := h.marks.lt
  obtain ⟨i1, hi1, hy0, hy1, hy2⟩ := info_parts info_sg
  have HI1 := Lib.hid hi1
  have HY0 := Lib.hid hy0
  have HY1 := Lib.hid hy1
  have HY2 := Lib.hid hy2
  clear hi1 hy0 hy1 hy2 h hq hqn hD3 hD2
  have HOwn := Lib.hid hD1
  clear hD1
  go_enter Try.func28, Try.ntmps28
  go_wp2_with (first
    | (at_range; refine wpList_range_own _ rfl _ 73 rfl 3 94 (int_keyed Try.underlying3) Try.underlying73 heldAs gm 1000 D rfl HOwn.out ?_; intro w0 hrg0 hg0 hs0))
  go_frame
  have HR0 := Lib.hid hrg0
  have HB0 : Hid (Below w.heap.size w w0) := Lib.hid ((Only.of_grown hg0).below (Nat.le_refl _) fun b e => by cases e)
  clear hrg0 hg0 hs0 c107
  obtain ⟨r, hr⟩ : ∃ r, w.heap.size = r := ⟨_, rfl⟩
  have HRr := Lib.hid hr
  rw [hr] at HR0 ⊢
  clear hr
  unfold noText at HSt0
  go_loopg [2, 3, 4] (Maps.size D) (fun gk s2 s3 s4 wr => ∃ left ct S R L A m c, gk = ct ∧ s2 = .int .i64 S ∧ s3 = .string R ∧ s4 = .slice A m c ∧ Hid (L.length = m) ∧ Hid (wr.ranges Try.prog 3 heldAs gm r 1000 D left ct) ∧ Hid (l.StAt left S R L) ∧ Hid (SRow wr A L) ∧ Hid (Below w.heap.size w wr))
  case atStart => exact ⟨_, _, 0, ⟨#[]⟩, [], none, 0, 0, rfl, rfl, rfl, rfl, Lib.hid rfl, HR0, HSt0, Lib.hid (.inl rfl), HB0⟩
  case round =>
    clear HR0 HB0 HSt0
    obtain ⟨left, ct, S, R, L, A, m, c, rfl, rfl, rfl, rfl, hm, hrg, hst, hL, hb⟩ := hrel
    go_wp2_with (first
      | (at_next; refine wpList_next_ranges _ rfl _ rfl 3 (int_keyed Try.underlying3) heldAs (Value.int .i64) id key_inv held_inv gm r 1000 D left _ rfl hrg.out ?_ ?_))
    · intro hc0 hl0
      have HL0 := Lib.hid hl0
      clear hl0 hc0
      go_wp2
      go_ret3
      exact stableTo hm.out (hst.out.done HL0.out) hL.out hb.out
    · intro x cv kl y1 y2 w1 cnt1 hkey hlx hR hR2 hat hrg1 hlt hg1 hs1 hen
      obtain ⟨x', ex, rfl, hwx⟩ := keyOf_int_inv Try.underlying3 hkey
      cases ex
      have hmk : ∃ mk, l.marks x = some mk ∧ cv = mk.val := by
        have h1 := hat .nil
        have h2 := hat (.agg [])
        rw [HD3.out x hwx] at h1 h2
        have hy : y1 = .held cv := by first | exact hR | exact hR.symm
        unfold marksOf at h1 h2
        cases hv : l.marks x with
        | none =>
          rw [hv] at h1 h2
          have h3 : (DataW.nil : DataW Value) = .agg [] := h1.trans h2.symm
          cases h3
        | some mk =>
          rw [hv, hy] at h1
          have h3 : (DataW.held mk.val : DataW Value) = .held cv := h1
          exact ⟨mk, rfl, (DataW.held.inj h3).symm⟩
      obtain ⟨mk, hmk, rfl⟩ := hmk
      have HMk := Lib.hid hmk
      have hb1 := Lib.hid (below_of_grown hb.out hg1 (by rw [HRr.out]; exact Nat.le_refl _))
      have hL1 := Lib.hid (srow_iter hL.out hrg.out hg1)
      have HR1 := Lib.hid hrg1
      clear hkey hlx hR hR2 hat hrg1 hg1 hs1 hmk hL hb hrg hwx
      obtain ⟨⟨mf, mb, ms⟩, mseq, mroot⟩ := mk
      simp only [Mk.val] at hen
      go_upto_region 6 with (fail)
      have hb2 : Hid (Below w.heap.size w (w1.alloc (.cells #[.int .i64 mf, .string mb, .string ms, .int .i64 mseq, .string mroot] 94))) := Lib.hid (hb1.out.alloc hb1.out.size _)
      have BX : Hid (Blk (w1.alloc (.cells #[.int .i64 mf, .string mb, .string ms, .int .i64 mseq, .string mroot] 94)) w1.heap.size 94 #[.int .i64 mf, .string mb, .string ms, .int .i64 mseq, .string mroot]) := Lib.hid (Blk.new _ _ _)
      have HR2 := Lib.hid (HR1.out.alloc (.cells #[.int .i64 mf, .string mb, .string ms, .int .i64 mseq, .string mroot] 94))
      have hL2 : Hid (SRow (w1.alloc (.cells #[.int .i64 mf, .string mb, .string ms, .int .i64 mseq, .string mroot] 94)) A L) := Lib.hid (hL1.out.below ((Below.refl _ _).alloc (Nat.le_refl _) _))
      clear hen hb1 HR1 hL1
      obtain ⟨gx, hgx⟩ : ∃ gx, w1.heap.size = gx := ⟨_, rfl⟩
      rw [hgx] at BX ⊢
      clear hgx
      generalize World.alloc w1 _ = wy at hb2 BX HR2 hL2 ⊢
      obtain ⟨c0, c2, c107⟩ := HCells.out wy hb2.out
      have q3 : wy.cell? ⟨gx, 3, none⟩ = some (.int .i64 mseq) := BX.out.cell 3
      obtain ⟨B, hB⟩ : ∃ B, Hid (decide (mseq ≤ S ∨ mseq ≤ lo) = B) := ⟨_, Lib.hid rfl⟩
      have hbd := hst.out.bound
      rw [hlo.out] at hbd
      go_cut [30] from 18 to 80 (fun s30 wc => s30 = .bool B ∧ wc = wy.drew)
      case first =>
        clear c0 c107
        by_cases hS : S < lo
        · by_cases hle : mseq ≤ lo
          · have E : Hid (B = true) := Lib.hid (by rw [← hB.out]; exact decide_eq_true (.inr hle))
            clear hbd
            go_region
            all_goals (go_wp2_with fail; go_meet; exact ⟨by rw [E.out], rfl⟩)
          · have E : Hid (B = false) := Lib.hid (by rw [← hB.out]; exact decide_eq_false (by omega))
            have hleB : decide (mseq ≤ lo) = false := by simpa using hle
            clear hbd
            go_region
            all_goals (go_wp2_with fail; go_meet; exact ⟨by rw [E.out], rfl⟩)
        · by_cases hle : mseq ≤ S
          · have E : Hid (B = true) := Lib.hid (by rw [← hB.out]; exact decide_eq_true (.inl hle))
            clear hbd
            go_region
            all_goals (go_wp2_with fail; go_meet; exact ⟨by rw [E.out], rfl⟩)
          · have E : Hid (B = false) := Lib.hid (by rw [← hB.out]; exact decide_eq_false (by omega))
            have hleB : decide (mseq ≤ S) = false := by simpa using hle
            clear hbd
            go_region
            all_goals (go_wp2_with fail; go_meet; exact ⟨by rw [E.out], rfl⟩)
      case rest =>
        obtain ⟨rfl, hwc⟩ := hcut
        have hb3 : Hid (Below w.heap.size w wc) := Lib.hid (by rw [hwc]; exact hb2.out.drew)
        have B3 : Hid (Blk wc gx 94 #[.int .i64 mf, .string mb, .string ms, .int .i64 mseq, .string mroot]) := Lib.hid (by rw [hwc]; exact BX.out.drew)
        have HR3 : Hid (wc.ranges Try.prog 3 heldAs gm r 1000 D (fun z => left z && !z.sameKey (.int .i64 x)) cnt1) := Lib.hid (by rw [hwc]; exact HR2.out.kept (grown_of_below ((Below.refl _ _).drew)) (by simp) (by simp))
        have hL3 : Hid (SRow wc A L) := Lib.hid (by rw [hwc]; exact hL2.out.below ((Below.refl _ _).drew))
        clear hwc hb2 BX HR2 hL2 c0 c2 c107 q3 hbd
        obtain ⟨w5, hw5⟩ : ∃ w5, w5 = wc := ⟨_, rfl⟩
        subst hw5
        cases B with
        | true =>
          have hsk := Lib.hid (hst.out.skip (by rw [hlo.out]; exact hlow0) HMk.out (by rw [hlo.out]; rcases of_decide_eq_true hB.out with h | h; exact .inl h; exact .inr (.inl h)))
          clear hst hB
          go_wp2
          go_roundg cnt1
          case measure => exact hlt
          case rel => exact ⟨_, cnt1, S, R, L, A, m, c, rfl, rfl, rfl, rfl, hm, HR3, hsk, hL3, hb3⟩
        | false =>
          have hno := of_decide_eq_false hB.out
          have hlm : lo < mseq := by omega
          have hG := Lib.hid (fun i => l.grp_snoc mseq mroot i)
          have hGe : Hid (∀ i, l.agrees mseq mroot i = match l.marks i with | some y => if y.seq = mseq ∧ y.root = mroot then some y.m else none | none => none) := Lib.hid fun i => rfl
          have c0 := (HCells.out w5 hb3.out).1
          clear hB hno
          go_wp2
          clear c0
          go_loopg [7, 35] (n + 1) (fun gk s7 s35 wr => ∃ i A2 c2, gk = n + 1 - i ∧ i ≤ n ∧ s35 = .int .i64 (i : Int) ∧ s7 = .slice A2 (l.grp mseq mroot i).length c2 ∧ Hid (Mine w5 wr 3 (.slice A2 (l.grp mseq mroot i).length c2) (l.grp mseq mroot i).length (scells (l.grp mseq mroot i))) ∧ Hid (Below w5.heap.size w5 wr))
          case atStart => exact ⟨0, none, 0, rfl, Nat.zero_le _, rfl, rfl, Lib.hid (Mine.empty _ _ _ _), Lib.hid (Below.refl _ _)⟩
          case round =>
            obtain ⟨i, A2, c2, rfl, hi, rfl, rfl, hm2, hbi⟩ := hrel
            have i0 : (0 : Int) ≤ (i : Int) := by omega
            have hle2 := Vl.grp_le l mseq mroot i
            obtain ⟨m2, hmm⟩ : ∃ m2, Hid ((l.grp mseq mroot i).length = m2) := ⟨_, Lib.hid rfl⟩
            rw [hmm.out] at hm2 hle2 ⊢
            by_cases hlti : i < n
            · have hltI : (i : Int) < (n : Int) := by omega
              have hsn := Lib.hid (hG.out i)
              have hbw := Lib.hid (below_next hb3.out hbi.out)
              obtain ⟨-, -, c107⟩ := HCells.out wr hbw.out
              have hlk := HLk.out i wr (by omega) hbw.out
              have hag := Lib.hid (hGe.out (i : Int))
              generalize l.marks (i : Int) = ov at hlk hag
              have hm20 : m2 ≤ 13 := by omega
              have hex : ∃ (v : Mk) (ok : Bool), (Instr.lookup 73 (.map (some gm)) (.int .i64 (i : Int)) true).run Try.prog wr = .ok (.tuple #[v.val, .bool ok]) wr ∧ l.agrees mseq mroot (i : Int) = if ok = true ∧ v.seq = mseq ∧ v.root = mroot then some v.m else none := by
                rw [hag.out]
                cases ov with
                | none => exact ⟨Mk.zero, false, hlk, by simp⟩
                | some v => exact ⟨v, true, hlk, by simp⟩
              clear hlk hag
              obtain ⟨⟨⟨fr, bo, si⟩, sq, rt⟩, ok, hlk, hag⟩ := hex
              have hag := Lib.hid hag
              simp only [Mk.val] at hlk
              go_upto_region 12 with (fail)
              have hm3 := Lib.hid (hm2.out.alloc (.cells #[.int .i64 fr, .string bo, .string si, .int .i64 sq, .string rt] 94))
              have hb4 := Lib.hid (hbi.out.alloc hbi.out.size (.cells #[.int .i64 fr, .string bo, .string si, .int .i64 sq, .string rt] 94))
              have B2 : Hid (Blk (wr.alloc (.cells #[.int .i64 fr, .string bo, .string si, .int .i64 sq, .string rt] 94)) wr.heap.size 94 #[.int .i64 fr, .string bo, .string si, .int .i64 sq, .string rt]) := Lib.hid (Blk.new _ _ _)
              clear c107 hlk hm2 hbw
              generalize wr.heap.size = gb at B2 ⊢
              generalize World.alloc wr _ = wy at hm3 hb4 B2 ⊢
              have B4 := Lib.hid (B3.out.below hb4.out B3.out.lt)
              have y0 : wy.cell? ⟨gb, 0, none⟩ = some (.int .i64 fr) := B2.out.cell 0
              have y1 : wy.cell? ⟨gb, 1, none⟩ = some (.string bo) := B2.out.cell 1
              have y2 : wy.cell? ⟨gb, 2, none⟩ = some (.string si) := B2.out.cell 2
              have y3 : wy.cell? ⟨gb, 3, none⟩ = some (.int .i64 sq) := B2.out.cell 3
              have y4 : wy.cell? ⟨gb, 4, none⟩ = some (.string rt) := B2.out.cell 4
              have x3 : wy.cell? ⟨gx, 3, none⟩ = some (.int .i64 mseq) := B4.out.cell 3
              have x4 : wy.cell? ⟨gx, 4, none⟩ = some (.string mroot) := B4.out.cell 4
              have hend : l.agrees mseq mroot (i : Int) = none → (l.grp mseq mroot (i + 1) = l.grp mseq mroot i) := fun h => by rw [hsn.out, h]; simp
              by_cases hyes : ok = true ∧ sq = mseq ∧ rt = mroot
              · obtain ⟨rfl, rfl, rfl⟩ := hyes
                have hsn2 : Hid (l.grp sq rt (i + 1) = l.grp sq rt i ++ [⟨fr, bo, si⟩]) := Lib.hid (by rw [hsn.out, hag.out]; simp)
                clear hend hsn hag
                go_wp2_with (first
                  | (refine wpList_append_mine rfl (.tmp 62) (.tmp 65) 44 44 rfl 48 i1 (.agg #[.int .i64 0, .string noText, .string noText]) 40 Try.underlying44 HI1.out HY0.out HY1.out HY2.out rfl (by decide) rfl (hm3.out.alloc _) (hb4.out.alloc hb4.out.size _) _ 1 [.int .i64 fr, .string bo, .string si] rfl (src_new Try.underlying44 _ _ _ 1 1 rfl (by simp [Value.oneCell'])) (by unfold maxLen; omega) (by omega) ?_; intro A3 c3 w6 hm4 hb6))
                go_roundg (n + 1 - (i + 1))
                case measure => omega
                case rel =>
                  have hlen : (l.grp sq rt (i + 1)).length = m2 + 1 := by rw [hsn2.out, List.length_append, hmm.out]; rfl
                  refine ⟨i + 1, A3, c3, rfl, by omega, by go_num, by rw [hlen], Lib.hid ?_, Lib.hid hb6⟩
                  rw [hlen, hsn2.out, scells_append]
                  exact hm4
              · have hsn2 := Lib.hid (hend (by rw [hag.out, if_neg hyes]))
                clear hend hsn hag
                by_cases ho : ok = true
                · subst ho
                  by_cases hh : sq = mseq
                  · have hd : ¬ rt = mroot := fun e => hyes ⟨rfl, hh, e⟩
                    have hd2 := text_ne hd
                    have hd3 := text_apart hd
                    have hd4 := text_differ hd
                    subst hh
                    clear hyes
                    go_wp2
                    go_roundg (n + 1 - (i + 1))
                    case measure => omega
                    case rel => exact ⟨i + 1, A2, c2, rfl, by omega, by go_num, by rw [hsn2.out, hmm.out], by rw [hsn2.out, hmm.out]; exact hm3, hb4⟩
                  · have hh2 : (sq == mseq) = false := by simpa using hh
                    clear hyes hh
                    go_wp2
                    go_roundg (n + 1 - (i + 1))
                    case measure => omega
                    case rel => exact ⟨i + 1, A2, c2, rfl, by omega, by go_num, by rw [hsn2.out, hmm.out], by rw [hsn2.out, hmm.out]; exact hm3, hb4⟩
                · have ho2 : ok = false := by simpa using ho
                  subst ho2
                  clear hyes ho
                  go_wp2
                  go_roundg (n + 1 - (i + 1))
                  case measure => omega
                  case rel => exact ⟨i + 1, A2, c2, rfl, by omega, by go_num, by rw [hsn2.out, hmm.out], by rw [hsn2.out, hmm.out]; exact hm3, hb4⟩
            · obtain rfl : i = n := by omega
              have hbw := Lib.hid (below_next hb3.out hbi.out)
              have hqe2 : Hid (l.quorum.toNat = q) := Lib.hid (by rw [hqe.out]; rfl)
              have HQ1 := Lib.hid (fun wx (hh : Below wr.heap.size wr wx) => HQ.out wx (below_next hbw.out hh))
              have hrgk := Lib.hid (fun wx (hh : Below wr.heap.size wr wx) => HR3.out.kept (grown_of_below (below_next hbi.out hh)) (by simp) (by simp))
              have B6 := Lib.hid (B3.out.below hbi.out B3.out.lt)
              clear hi hlti
              by_cases hqm : q ≤ m2
              · obtain ⟨hmc, hsr⟩ := hm2.out.srow hmm.out hqm
                have hsr := Lib.hid hsr
                have hqI : (q : Int) ≤ (m2 : Int) := by omega
                have hfo := Lib.hid (Vl.StAt.found (left := fun z => left z && !z.sameKey (.int .i64 x)) HMk.out (by rw [hlo.out]; exact hlm) (by rw [hnn.out, hmm.out, hqe.out]; omega))
                rw [hnn.out, hqe2.out] at hfo
                have hlt2 : Hid (((l.grp mseq mroot i).take q).length = q) := Lib.hid (by rw [List.length_take, hmm.out]; omega)
                obtain ⟨bb, oo, hAe, -, -, -, -⟩ := mine_list hm2.out (by omega)
                subst hAe
                have hqc : (q : Int) ≤ (c2 : Int) := by omega
                have hmcI : (m2 : Int) ≤ (c2 : Int) := by omega
                go_upto_region 16 with (first
                  | (go_at_call 42; (with_reducible refine (HQ1.out _ (Below.refl _ _)).mono ?_); rintro e wq ⟨rfl, nd, rfl⟩))
                generalize hwz : World.drewN _ _ = wz
                have hbz : Hid (Below wr.heap.size wr wz) := Lib.hid (by rw [← hwz]; exact below_draw (Below.refl _ _) _)
                clear hwz
                have B7 := Lib.hid (B6.out.below hbz.out B6.out.lt)
                have x3 : wz.cell? ⟨gx, 3, none⟩ = some (.int .i64 mseq) := B7.out.cell 3
                have x4 : wz.cell? ⟨gx, 4, none⟩ = some (.string mroot) := B7.out.cell 4
                have hq0 : (0 : Int) ≤ (q : Int) := by omega
                go_quiet ((go_at_call 42; (with_reducible refine (HQ1.out _ (below_draw hbz.out _)).mono ?_); rintro e w' ⟨rfl, ⟨nd2, rfl⟩⟩; exact ⟨rfl, _, World.drewN_drewN _ _ _⟩))
                go_wp2
                generalize hwy : World.drewN _ _ = wy
                have hby : Hid (Below wr.heap.size wr wy) := Lib.hid (by rw [← hwy]; exact below_draw hbz.out _)
                clear hwy
                go_roundg cnt1
                case measure => exact hlt
                case rel => exact ⟨_, cnt1, mseq, mroot, _, _, _, _, rfl, rfl, rfl, rfl, hlt2, Lib.hid (hrgk.out _ hby.out), hfo, Lib.hid (hsr.out.below hby.out), Lib.hid (below_next hbw.out hby.out)⟩
              · have hqI : ¬ (q : Int) ≤ (m2 : Int) := by omega
                have hsk := Lib.hid (hst.out.skip (by rw [hlo.out]; exact hlow0) HMk.out (.inr (.inr (by rw [hnn.out, hmm.out, hqe.out]; omega))))
                go_wp2_with (first
                  | (go_at_call 42; (with_reducible refine (HQ1.out _ (Below.refl _ _)).mono ?_); rintro e wq ⟨rfl, nd, rfl⟩))
                generalize hwy : World.drewN _ _ = wy
                have hby : Hid (Below wr.heap.size wr wy) := Lib.hid (by rw [← hwy]; exact below_draw (Below.refl _ _) _)
                clear hwy
                go_roundg cnt1
                case measure => exact hlt
                case rel => exact ⟨_, cnt1, S, R, L, A, m, c, rfl, rfl, rfl, rfl, hm, Lib.hid (hrgk.out _ hby.out), hsk, Lib.hid (hL3.out.below (below_next hbi.out hby.out)), Lib.hid (below_next hbw.out hby.out)⟩
end Go.Proofs.Ytedndjbhgbdpoaa
