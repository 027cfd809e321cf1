/- The reference's Bid. -/
import Derived.Test.YtccmafmeblojpaaRfR
import Derived.Test.YtccmafmeblojpaaRfP
namespace Go.Proofs.Ytccmafmeblojpaa
open Go.RowKit
set_option linter.unusedVariables false
set_option linter.unusedSimpArgs false
/-- What a call of the reference leaves: its rows last, whatever is written elsewhere then. -/
def RTo (w : World) (A : Option Addr) (XS : List (Option Addr × Nat)) (a : Auc) (r : Auc × Int) (e : Ending) (w' : World) : Prop :=
  ∃ A' XS' c', e = .returned (.tuple #[rval r.1 A' XS'.length c', .int .i64 r.2]) ∧ XS'.length ≤ c' ∧ (XS'.length : Int) = r.1.round ∧ Below w.heap.size w w' ∧ Lasts w w' (RA A XS a) (RA A' XS' r.1)
theorem rto {w w' : World} {A A' : Option Addr} {XS XS' : List (Option Addr × Nat)} {a x : Auc} {r : Auc × Int} {n c' : Nat} {s0 s1 s2 s3 q : Int} (hr : r = (x, q)) (hn : XS'.length = n) (h0 : x.supply = s0) (h1 : x.start = s1) (h2 : x.step = s2) (h3 : x.state = s3)
    (hc : n ≤ c') (hk : x.round = (n : Int)) (hb : Below w.heap.size w w') (hl : Lasts w w' (RA A XS a) (RA A' XS' x)) :
    RTo w A XS a r (.returned (.tuple #[.agg #[.int .i64 s0, .int .i64 s1, .int .i64 s2, .int .i64 s3, .slice A' n c'], .int .i64 q])) w' := by
  subst hr hn h0 h1 h2 h3
  exact ⟨A', XS', c', rfl, hc, hk.symm, hb, hl⟩
section
variable {w0 w w' : World} {sz : Nat} {v : Value} {n : Nat} {xs : List Value}
theorem Mine.only (h : Mine w0 w sz v n xs) (ho : Only (fun b => b < w0.heap.size) w w') : Mine w0 w' sz v n xs :=
  h.carry ho.size fun g hg hl => ho.block g hl (by omega)
theorem Mine.cap {A : Option Addr} {c : Nat} (h : Mine w0 w sz (.slice A n c) n xs) : n ≤ c := by
  obtain ⟨A', c', e, h1, _⟩ := h.row
  cases e; exact h1
theorem only_five {S : Nat → Prop} {W : World} (h : Only S w W) {g : Nat} (hg : S g) (v0 v1 v2 v3 v4 : Value) : Only S w (((((W.setCell ⟨g, 0, none⟩ v0).setCell ⟨g, 1, none⟩ v1).setCell ⟨g, 2, none⟩ v2).setCell ⟨g, 3, none⟩ v3).setCell ⟨g, 4, none⟩ v4) :=
  ((((h.setCell (.inl hg) _).setCell (.inl hg) _).setCell (.inl hg) _).setCell (.inl hg) _).setCell (.inl hg) _
theorem below_five {B g : Nat} {w W : World} (h : Below B w W) (hB : B ≤ g) (v0 v1 v2 v3 v4 : Value) : Below B w (((((W.setCell ⟨g, 0, none⟩ v0).setCell ⟨g, 1, none⟩ v1).setCell ⟨g, 2, none⟩ v2).setCell ⟨g, 3, none⟩ v3).setCell ⟨g, 4, none⟩ v4) := ((((h.setCell hB _).setCell hB _).setCell hB _).setCell hB _).setCell hB _
end
/-- An append leaves what was made behind the appended row's last world. -/
theorem wpList_append_past {P : Program} {ops : Array Oper} {rest : List Oper} {o : Oper} {a : Act} {Q : Exit → Act → World → Prop} {w0 w3 w : World} {sz n : Nat} {v : Value} {xs : List Value} (hgd : o.guard = none) (s x : Operand) (t tx : TypeId)
    (ho : o.op = .call { callee := .builtin .append, args := #[s, x], argTypes := #[t, tx] })
    (e : TypeId) (i : TypeInfo) (z : Value) (bytes : Nat) (ht : P.underlying t = some (.slice e)) (hi : P.info? e = some i) (hz : i.zero = some z) (hsize : i.size = sz) (hby : i.bytes = bytes) (hzs : z.cells.size = sz) (hsz : 0 < sz)
    (hv : a.eval s = v) (h : Mine w0 w3 sz v n xs) (h0 : Below w0.heap.size w0 w3) (h3 : Below w3.heap.size w3 w) (xv : Value) (m : Nat) (news : List Value) (hx : a.eval x = xv) (hs : Src P sz tx xv m news w) (h63 : n + m ≤ maxLen) (hbytes : (n + m) * bytes ≤ 140737488355328)
    (hK : ∀ A c w', Mine w0 w' sz (.slice A (n + m) c) (n + m) (xs ++ news) → Below w0.heap.size w0 w' → w.heap.size ≤ w'.heap.size → (∀ g, w3.heap.size ≤ g → g < w.heap.size → w'.heap[g]? = w.heap[g]?) → wpList P ops Q rest (a.put o.dst (.slice A (n + m) c)) w') : wpList P ops Q (o :: rest) a w := by
  obtain ⟨b, h1, h2⟩ := h
  have hlt : ∀ g, b = some g → g < w3.heap.size := fun g hg => h1.lt hg
  refine wpList_append_own2 hgd s x t tx ho e i z bytes ht hi hz hsize hby hzs hsz hv (h1.below h3) xv m news hx hs h63 hbytes fun A c w' b' hown hg hb => ?_
  refine hK A c w' ⟨b', hown, fun g hg' => ?_⟩ (below_grown (below_next h0 h3) hg h2) hg.size fun g hg1 hg2 => hg.block g hg2 fun hh => ?_
  · rcases hb with hb | hb
    · exact h2 g (hb ▸ hg')
    · rw [hb] at hg'; cases hg'; exact (below_next h0 h3).size
  · have := hlt g hh.symm; omega
theorem rbid_last {w wx w3 w5 w7 wF : World} {A A3 Al : Option Addr} {XS : List (Option Addr × Nat)} {a : Auc} {k c3 cl i : Nat} {x : Int} (hn : XS.length = k + 1) (hi : i < a.l.length) (hwx : w.heap.size ≤ wx.heap.size) (hwx3 : wx.heap.size ≤ w3.heap.size)
    (h7 : Mine wx w7 1 (.slice A3 (k + 1) c3) (k + 1) (svals a.l.length (XS.take k) ++ [.slice Al a.l.length cl])) (hL : Mine w3 w5 1 (.slice Al a.l.length cl) a.l.length (icells (a.nowl.set i x)))
    (h57 : w5.heap.size ≤ w7.heap.size) (hk : ∀ g, w3.heap.size ≤ g → g < w5.heap.size → w7.heap[g]? = w5.heap[g]?) (hF : Only (fun b => b < wx.heap.size) w7 wF) :
    Lasts w wF (RA A XS a) (RA A3 (XS.take k ++ [(Al, cl)]) { a with l := a.l.set i ((a.l.getD i (0, 0)).1, x) }) := by
  intro W' hs hb hp
  have hF7 : Mine wx wF 1 _ _ _ := h7.only hF
  have hL7 : Mine w3 wF 1 (.slice Al a.l.length cl) a.l.length (icells (a.nowl.set i x)) := hL.carry (Nat.le_trans h57 hF.size) fun g h1 h2 => (hF.block g (by omega) (by omega)).trans (hk g h1 h2)
  have hlen : (XS.take k ++ [(Al, cl)]).length = k + 1 := by rw [List.length_append, List.length_take, hn, Nat.min_eq_left (by omega)]; rfl
  have e1 : (XS.take k ++ [(Al, cl)]).getD k (none, 0) = (Al, cl) := by
    rw [List.getD_eq_getElem?_getD, List.getElem?_append_right (by rw [List.length_take]; omega)]
    simp [hn]
  have hsv : svals a.l.length (XS.take k) ++ [.slice Al a.l.length cl] = svals a.l.length (XS.take k ++ [(Al, cl)]) := by simp [svals]
  have hle : ({ a with l := a.l.set i ((a.l.getD i (0, 0)).1, x) } : Auc).l.length = a.l.length := by simp
  rw [hsv] at hF7
  refine ⟨?_, ?_, fun h2 => ?_⟩
  · have := (hF7.carry hs fun g h1 h2 => hb g (Nat.le_trans hwx h1) h2).srow hlen
    rw [hle]; exact this
  · rw [hlen, Nat.add_sub_cancel, e1, Auc.set_nowl]
    exact (hL7.carry hs fun g h1 h2 => hb g (by omega) h2).irow
  · rw [hlen] at h2 ⊢
    rw [Auc.set_wasl a x hi]
    have h3 := hp.was (by rw [hn]; exact h2)
    rw [hn] at h3
    have e2 : (XS.take k ++ [(Al, cl)]).getD (k + 1 - 2) (none, 0) = XS.getD (k + 1 - 2) (none, 0) := by
      rw [List.getD_eq_getElem?_getD, List.getElem?_append_left (by rw [List.length_take]; omega), List.getElem?_take_of_lt (by omega), List.getD_eq_getElem?_getD]
    rw [e2]; exact h3
theorem svals_snoc (m : Nat) (XS : List (Option Addr × Nat)) (A : Option Addr) (c : Nat) : svals m (XS ++ [(A, c)]) = svals m XS ++ [.slice A m c] := by simp [svals]
set_option maxHeartbeats 8000000 in
set_option maxRecDepth 20000 in
theorem rbid_calls (w : World) (a : Auc) (A : Option Addr) (XS : List (Option Addr × Nat)) (n c : Nat) (hB : Beside a n) (hn : XS.length = n) (hcn : n ≤ c) (h : RA A XS a w) (who x : Int) :
    Calls Try.prog 38 #[rval a A n c, .int .i64 who, .int .i64 x] w (RTo w A XS a (a.bid who x)) := by
  have H := Lib.hid h
  have HBd := Lib.hid hB
  have HN := Lib.hid hn
  have hp := hB.pos
  have hfw := hB.few
  have hround := Lib.hid hB.round
  obtain ⟨m, hm⟩ : ∃ m, Hid (a.l.length = m) := ⟨_, Lib.hid rfl⟩
  have hm16 := hB.ok.len.2
  rw [hm.out] at hm16
  have HE : Hid (a.bid who x = if a.state ≠ 0 then (a, 70) else if who < 0 ∨ who ≥ m ∨ x < 0 ∨ x > 1048576 then (a, 1) else if a.round > 1 ∧ x > (a.l.getD who.toNat (0, 0)).1 then (a, 71) else ({ a with l := a.l.set who.toNat ((a.l.getD who.toNat (0, 0)).1, x) }, 0)) := Lib.hid (by rw [← hm.out]; rfl)
  have hb0 : Hid (Below w.heap.size w ((w.alloc (.cells #[.int .i64 a.supply, .int .i64 a.start, .int .i64 a.step, .int .i64 a.state, .slice A n c] 56)).alloc (.cells #[.int .i64 0, .int .i64 0, .int .i64 0, .int .i64 0, .slice none 0 0] 56))) := Lib.hid (((Below.refl _ _).alloc (Nat.le_refl _) _).alloc (by simp) _)
  have B0 : Hid (Blk ((w.alloc (.cells #[.int .i64 a.supply, .int .i64 a.start, .int .i64 a.step, .int .i64 a.state, .slice A n c] 56)).alloc (.cells #[.int .i64 0, .int .i64 0, .int .i64 0, .int .i64 0, .slice none 0 0] 56)) w.heap.size 56 #[.int .i64 a.supply, .int .i64 a.start, .int .i64 a.step, .int .i64 a.state, .slice A n c]) := Lib.hid ((Blk.new w 56 #[.int .i64 a.supply, .int .i64 a.start, .int .i64 a.step, .int .i64 a.state, .slice A n c]).alloc (.cells #[.int .i64 0, .int .i64 0, .int .i64 0, .int .i64 0, .slice none 0 0] 56))
  have B1 : Hid (Blk ((w.alloc (.cells #[.int .i64 a.supply, .int .i64 a.start, .int .i64 a.step, .int .i64 a.state, .slice A n c] 56)).alloc (.cells #[.int .i64 0, .int .i64 0, .int .i64 0, .int .i64 0, .slice none 0 0] 56)) (w.heap.size + 1) 56 #[.int .i64 0, .int .i64 0, .int .i64 0, .int .i64 0, .slice none 0 0]) := Lib.hid (by have := (Blk.new (w.alloc (.cells #[.int .i64 a.supply, .int .i64 a.start, .int .i64 a.step, .int .i64 a.state, .slice A n c] 56)) 56 #[.int .i64 0, .int .i64 0, .int .i64 0, .int .i64 0, .slice none 0 0]); simpa using this)
  obtain ⟨i0, hi0, hz0, hz1, hz2⟩ := info_parts info_ints
  have HI0 := Lib.hid hi0
  have HZ0 := Lib.hid hz0
  have HZ1 := Lib.hid hz1
  have HZ2 := Lib.hid hz2
  obtain ⟨i1, hi1, hy0, hy1, hy2⟩ := info_parts info_int
  have HI1 := Lib.hid hi1
  have HY0 := Lib.hid hy0
  have HY1 := Lib.hid hy1
  have HY2 := Lib.hid hy2
  have HNow := Lib.hid (fun wx (hx : RA A XS a wx) => rnow_calls wx a A XS n c hn hp hfw hx)
  have HWas := Lib.hid (fun wx (hx : RA A XS a wx) (i : Nat) hi => rwas_calls wx a A XS n c hB hn hx i hi)
  rw [hm.out] at HNow HWas
  clear h hB hn hi0 hz0 hz1 hz2 hi1 hy0 hy1 hy2
  unfold rval at HNow HWas
  unfold rval
  go_enter Try.func38, Try.ntmps38
  go_upto_region 1 with (fail)
  obtain ⟨g1, hg1⟩ : ∃ g1, w.heap.size = g1 := ⟨_, rfl⟩
  have HG := Lib.hid hg1
  rw [hg1] at B0 B1 ⊢
  clear hg1
  generalize World.alloc (World.alloc w _) _ = wy at hb0 B0 B1 ⊢
  have HRA : Hid (∀ wx, Below w.heap.size w wx → RA A XS a wx) := Lib.hid fun wx hb => H.out.below hb
  have HX : Hid (∀ wx : World, Below wy.heap.size wy wx → (wx.cell? ⟨g1, 0, none⟩ = some (.int .i64 a.supply) ∧ wx.cell? ⟨g1, 1, none⟩ = some (.int .i64 a.start) ∧ wx.cell? ⟨g1, 2, none⟩ = some (.int .i64 a.step) ∧ wx.cell? ⟨g1, 3, none⟩ = some (.int .i64 a.state) ∧ wx.cell? ⟨g1, 4, none⟩ = some (.slice A n c)) ∧ (wx.cell? ⟨g1 + 1, 0, none⟩ = some (.int .i64 0) ∧ wx.cell? ⟨g1 + 1, 1, none⟩ = some (.int .i64 0) ∧ wx.cell? ⟨g1 + 1, 2, none⟩ = some (.int .i64 0) ∧ wx.cell? ⟨g1 + 1, 3, none⟩ = some (.int .i64 0) ∧ wx.cell? ⟨g1 + 1, 4, none⟩ = some (.slice none 0 0)) ∧ (wx.frozen? ⟨g1 + 1, 0, none⟩ = false ∧ wx.frozen? ⟨g1 + 1, 1, none⟩ = false ∧ wx.frozen? ⟨g1 + 1, 2, none⟩ = false ∧ wx.frozen? ⟨g1 + 1, 3, none⟩ = false ∧ wx.frozen? ⟨g1 + 1, 4, none⟩ = false) ∧ (wx.frozen? ⟨g1, 0, none⟩ = false ∧ wx.frozen? ⟨g1, 1, none⟩ = false ∧ wx.frozen? ⟨g1, 2, none⟩ = false ∧ wx.frozen? ⟨g1, 3, none⟩ = false ∧ wx.frozen? ⟨g1, 4, none⟩ = false)) := Lib.hid fun wx hb => by
    have b0 := B0.out.below hb B0.out.lt
    have b1 := B1.out.below hb B1.out.lt
    exact ⟨⟨b0.cell 0, b0.cell 1, b0.cell 2, b0.cell 3, b0.cell 4⟩, ⟨b1.cell 0, b1.cell 1, b1.cell 2, b1.cell 3, b1.cell 4⟩, ⟨b1.frozen 0, b1.frozen 1, b1.frozen 2, b1.frozen 3, b1.frozen 4⟩, ⟨b0.frozen 0, b0.frozen 1, b0.frozen 2, b0.frozen 3, b0.frozen 4⟩⟩
  obtain ⟨⟨c0, c1, c2, c3, c4⟩, ⟨z0, z1, z2, z3, z4⟩, ⟨f0, f1, f2, f3, f4⟩, ⟨e0, e1, e2, e3, e4⟩⟩ := HX.out wy (Below.refl _ _)
  have HSz : Hid (g1 + 1 < wy.heap.size) := Lib.hid B1.out.lt
  by_cases hs : a.state = 0
  case neg =>
    have E : Hid (a.bid who x = (a, 70)) := Lib.hid (by rw [HE.out, if_pos hs])
    have hsB : (a.state != 0) = true := by simpa using hs
    have hsB2 : (a.state == 0) = false := by simpa using hs
    clear hs HE
    go_wp2_with (first
      | (go_at_call 40; (with_reducible refine (HNow.out _ (HRA.out _ hb0.out)).mono ?_); rintro e w1 ⟨rfl, hh⟩; have hb1 := Lib.hid hh; clear hh; obtain ⟨⟨c0, c1, c2, c3, c4⟩, ⟨z0, z1, z2, z3, z4⟩, ⟨f0, f1, f2, f3, f4⟩, ⟨e0, e1, e2, e3, e4⟩⟩ := HX.out w1 hb1.out)
      | (go_at_call 43; (with_reducible refine (HWas2.out _ (HRA.out _ (below_next hb0.out hb1.out))).mono ?_); rintro e w2 ⟨rfl, hh⟩; have hb2 := Lib.hid (below_next hb1.out hh); clear hh; obtain ⟨⟨c0, c1, c2, c3, c4⟩, ⟨z0, z1, z2, z3, z4⟩, ⟨f0, f1, f2, f3, f4⟩, ⟨e0, e1, e2, e3, e4⟩⟩ := HX.out w2 hb2.out))
    (try simp only [Exit.inBlock, Exit.then])
    refine bodyPost_ret (by simp [results, Try.results38, asAddr, go_sem, z0, z1, z2, z3, z4]; rfl) rfl ?_
    refine rto E.out HN.out rfl rfl rfl rfl hcn hround.out (below_five (g := g1 + 1) (by first | exact below_next hb0.out hb2.out | exact below_next hb0.out hb1.out | exact hb0.out) (by rw [HG.out]; omega) _ _ _ _ _) (Lasts.same _ _ _)
  have HE2 : Hid (a.bid who x = if who < 0 ∨ who ≥ m ∨ x < 0 ∨ x > 1048576 then (a, 1) else if a.round > 1 ∧ x > (a.l.getD who.toNat (0, 0)).1 then (a, 71) else ({ a with l := a.l.set who.toNat ((a.l.getD who.toNat (0, 0)).1, x) }, 0)) := Lib.hid (by rw [HE.out, if_neg (by simpa using hs)])
  have hsB : (a.state != 0) = false := by simpa using hs
  have hsB2 : (a.state == 0) = true := by simpa using hs
  clear HE
  by_cases h1 : who < 0
  · have E : Hid (a.bid who x = (a, 1)) := Lib.hid (by rw [HE2.out, if_pos (.inl h1)])
    clear hs
    go_wp2_with (first
      | (go_at_call 40; (with_reducible refine (HNow.out _ (HRA.out _ hb0.out)).mono ?_); rintro e w1 ⟨rfl, hh⟩; have hb1 := Lib.hid hh; clear hh; obtain ⟨⟨c0, c1, c2, c3, c4⟩, ⟨z0, z1, z2, z3, z4⟩, ⟨f0, f1, f2, f3, f4⟩, ⟨e0, e1, e2, e3, e4⟩⟩ := HX.out w1 hb1.out)
      | (go_at_call 43; (with_reducible refine (HWas2.out _ (HRA.out _ (below_next hb0.out hb1.out))).mono ?_); rintro e w2 ⟨rfl, hh⟩; have hb2 := Lib.hid (below_next hb1.out hh); clear hh; obtain ⟨⟨c0, c1, c2, c3, c4⟩, ⟨z0, z1, z2, z3, z4⟩, ⟨f0, f1, f2, f3, f4⟩, ⟨e0, e1, e2, e3, e4⟩⟩ := HX.out w2 hb2.out))
    (try simp only [Exit.inBlock, Exit.then])
    refine bodyPost_ret (by simp [results, Try.results38, asAddr, go_sem, z0, z1, z2, z3, z4]; rfl) rfl ?_
    refine rto E.out HN.out rfl rfl rfl rfl hcn hround.out (below_five (g := g1 + 1) (by first | exact below_next hb0.out hb2.out | exact below_next hb0.out hb1.out | exact hb0.out) (by rw [HG.out]; omega) _ _ _ _ _) (Lasts.same _ _ _)
  have h1' : 0 ≤ who := by omega
  by_cases h2 : (m : Int) ≤ who
  · have E : Hid (a.bid who x = (a, 1)) := Lib.hid (by rw [HE2.out, if_pos (.inr (.inl h2))])
    clear hs h1
    go_wp2_with (first
      | (go_at_call 40; (with_reducible refine (HNow.out _ (HRA.out _ hb0.out)).mono ?_); rintro e w1 ⟨rfl, hh⟩; have hb1 := Lib.hid hh; clear hh; obtain ⟨⟨c0, c1, c2, c3, c4⟩, ⟨z0, z1, z2, z3, z4⟩, ⟨f0, f1, f2, f3, f4⟩, ⟨e0, e1, e2, e3, e4⟩⟩ := HX.out w1 hb1.out)
      | (go_at_call 43; (with_reducible refine (HWas2.out _ (HRA.out _ (below_next hb0.out hb1.out))).mono ?_); rintro e w2 ⟨rfl, hh⟩; have hb2 := Lib.hid (below_next hb1.out hh); clear hh; obtain ⟨⟨c0, c1, c2, c3, c4⟩, ⟨z0, z1, z2, z3, z4⟩, ⟨f0, f1, f2, f3, f4⟩, ⟨e0, e1, e2, e3, e4⟩⟩ := HX.out w2 hb2.out))
    (try simp only [Exit.inBlock, Exit.then])
    refine bodyPost_ret (by simp [results, Try.results38, asAddr, go_sem, z0, z1, z2, z3, z4]; rfl) rfl ?_
    refine rto E.out HN.out rfl rfl rfl rfl hcn hround.out (below_five (g := g1 + 1) (by first | exact below_next hb0.out hb2.out | exact below_next hb0.out hb1.out | exact hb0.out) (by rw [HG.out]; omega) _ _ _ _ _) (Lasts.same _ _ _)
  have h2' : who < (m : Int) := by omega
  by_cases h3 : x < 0
  · have E : Hid (a.bid who x = (a, 1)) := Lib.hid (by rw [HE2.out, if_pos (.inr (.inr (.inl h3)))])
    clear hs h1 h2
    go_wp2_with (first
      | (go_at_call 40; (with_reducible refine (HNow.out _ (HRA.out _ hb0.out)).mono ?_); rintro e w1 ⟨rfl, hh⟩; have hb1 := Lib.hid hh; clear hh; obtain ⟨⟨c0, c1, c2, c3, c4⟩, ⟨z0, z1, z2, z3, z4⟩, ⟨f0, f1, f2, f3, f4⟩, ⟨e0, e1, e2, e3, e4⟩⟩ := HX.out w1 hb1.out)
      | (go_at_call 43; (with_reducible refine (HWas2.out _ (HRA.out _ (below_next hb0.out hb1.out))).mono ?_); rintro e w2 ⟨rfl, hh⟩; have hb2 := Lib.hid (below_next hb1.out hh); clear hh; obtain ⟨⟨c0, c1, c2, c3, c4⟩, ⟨z0, z1, z2, z3, z4⟩, ⟨f0, f1, f2, f3, f4⟩, ⟨e0, e1, e2, e3, e4⟩⟩ := HX.out w2 hb2.out))
    (try simp only [Exit.inBlock, Exit.then])
    refine bodyPost_ret (by simp [results, Try.results38, asAddr, go_sem, z0, z1, z2, z3, z4]; rfl) rfl ?_
    refine rto E.out HN.out rfl rfl rfl rfl hcn hround.out (below_five (g := g1 + 1) (by first | exact below_next hb0.out hb2.out | exact below_next hb0.out hb1.out | exact hb0.out) (by rw [HG.out]; omega) _ _ _ _ _) (Lasts.same _ _ _)
  have h3' : 0 ≤ x := by omega
  by_cases h4 : 1048576 < x
  · have E : Hid (a.bid who x = (a, 1)) := Lib.hid (by rw [HE2.out, if_pos (.inr (.inr (.inr h4)))])
    clear hs h1 h2 h3
    go_wp2_with (first
      | (go_at_call 40; (with_reducible refine (HNow.out _ (HRA.out _ hb0.out)).mono ?_); rintro e w1 ⟨rfl, hh⟩; have hb1 := Lib.hid hh; clear hh; obtain ⟨⟨c0, c1, c2, c3, c4⟩, ⟨z0, z1, z2, z3, z4⟩, ⟨f0, f1, f2, f3, f4⟩, ⟨e0, e1, e2, e3, e4⟩⟩ := HX.out w1 hb1.out)
      | (go_at_call 43; (with_reducible refine (HWas2.out _ (HRA.out _ (below_next hb0.out hb1.out))).mono ?_); rintro e w2 ⟨rfl, hh⟩; have hb2 := Lib.hid (below_next hb1.out hh); clear hh; obtain ⟨⟨c0, c1, c2, c3, c4⟩, ⟨z0, z1, z2, z3, z4⟩, ⟨f0, f1, f2, f3, f4⟩, ⟨e0, e1, e2, e3, e4⟩⟩ := HX.out w2 hb2.out))
    (try simp only [Exit.inBlock, Exit.then])
    refine bodyPost_ret (by simp [results, Try.results38, asAddr, go_sem, z0, z1, z2, z3, z4]; rfl) rfl ?_
    refine rto E.out HN.out rfl rfl rfl rfl hcn hround.out (below_five (g := g1 + 1) (by first | exact below_next hb0.out hb2.out | exact below_next hb0.out hb1.out | exact hb0.out) (by rw [HG.out]; omega) _ _ _ _ _) (Lasts.same _ _ _)
  have h4' : x ≤ 1048576 := by omega
  have HE3 : Hid (a.bid who x = if a.round > 1 ∧ x > (a.l.getD who.toNat (0, 0)).1 then (a, 71) else ({ a with l := a.l.set who.toNat ((a.l.getD who.toNat (0, 0)).1, x) }, 0)) := Lib.hid (by rw [HE2.out, if_neg (by omega)])
  clear HE2 hs h1 h2 h3 h4
  obtain ⟨i, rfl⟩ := Int.eq_ofNat_of_zero_le h1'
  have hwi : Hid (i < m) := Lib.hid (by omega)
  have hwl : Hid (a.wasl.getD i 0 = (a.l.getD i (0, 0)).1) := Lib.hid (Auc.wasl_at a (by rw [hm.out]; exact hwi.out))
  rw [Int.toNat_natCast, ← hwl.out, hround.out] at HE3
  obtain ⟨wa, hwa⟩ : ∃ wa, Hid (a.wasl.getD i 0 = wa) := ⟨_, Lib.hid rfl⟩
  have HWas2 : Hid (∀ wx, RA A XS a wx → Calls Try.prog 43 #[.agg #[.int .i64 a.supply, .int .i64 a.start, .int .i64 a.step, .int .i64 a.state, .slice A n c], .int .i64 (i : Int)] wx fun e w' => e = .returned (.int .i64 wa) ∧ Below wx.heap.size wx w') := Lib.hid fun wx hx => by rw [← hwa.out]; exact HWas.out wx hx i hwi.out
  have i0' : (0 : Int) ≤ (i : Int) := by omega
  clear HWas
  rw [hwa.out] at HE3
  have hp' := Lib.hid hp
  have hfw' := Lib.hid hfw
  by_cases h5 : 1 < n ∧ wa < x
  · obtain ⟨h5, h6⟩ := h5
    have E : Hid (a.bid (i : Int) x = (a, 71)) := Lib.hid (by rw [HE3.out, if_pos ⟨by omega, h6⟩])
    have h5I : (1 : Int) < (n : Int) := by omega
    have h6B : decide (wa < x) = true := by simpa using h6
    clear hp hfw h5
    go_wp2_with (first
      | (go_at_call 40; (with_reducible refine (HNow.out _ (HRA.out _ hb0.out)).mono ?_); rintro e w1 ⟨rfl, hh⟩; have hb1 := Lib.hid hh; clear hh; obtain ⟨⟨c0, c1, c2, c3, c4⟩, ⟨z0, z1, z2, z3, z4⟩, ⟨f0, f1, f2, f3, f4⟩, ⟨e0, e1, e2, e3, e4⟩⟩ := HX.out w1 hb1.out)
      | (go_at_call 43; (with_reducible refine (HWas2.out _ (HRA.out _ (below_next hb0.out hb1.out))).mono ?_); rintro e w2 ⟨rfl, hh⟩; have hb2 := Lib.hid (below_next hb1.out hh); clear hh; obtain ⟨⟨c0, c1, c2, c3, c4⟩, ⟨z0, z1, z2, z3, z4⟩, ⟨f0, f1, f2, f3, f4⟩, ⟨e0, e1, e2, e3, e4⟩⟩ := HX.out w2 hb2.out))
    (try simp only [Exit.inBlock, Exit.then])
    refine bodyPost_ret (by simp [results, Try.results38, asAddr, go_sem, z0, z1, z2, z3, z4]; rfl) rfl ?_
    refine rto E.out HN.out rfl rfl rfl rfl hcn hround.out (below_five (g := g1 + 1) (by first | exact below_next hb0.out hb2.out | exact below_next hb0.out hb1.out | exact hb0.out) (by rw [HG.out]; omega) _ _ _ _ _) (Lasts.same _ _ _)
  have E : Hid (a.bid (i : Int) x = ({ a with l := a.l.set i ((a.l.getD i (0, 0)).1, x) }, 0)) := Lib.hid (by rw [HE3.out, if_neg (by omega), ← hwl.out, hwa.out, hround.out])
  obtain ⟨k, hk⟩ : ∃ k, k + 1 = n := ⟨n - 1, by omega⟩
  have HK := Lib.hid hk
  have hk200 : k ≤ 200 := by omega
  have q : IntKind.i64.wrap ((n : Int) - 1) = (k : Int) := by rw [IntKind.wrap_i64]; omega
  have q0 : (0 : Int) ≤ (k : Int) := by omega
  have q1 : (k : Int) ≤ (c : Int) := by omega
  have hcn' := Lib.hid hcn
  by_cases h7 : n < 2
  · have h7I : ¬ (1 : Int) < (n : Int) := by omega
    have h7B : decide ((1 : Int) < (n : Int)) = false := by simpa using h7I
    clear h7 hp hfw
    go_upto_region 7 with (first
      | (go_at_call 40; (with_reducible refine (HNow.out _ (HRA.out _ hb0.out)).mono ?_); rintro e wx ⟨rfl, hh⟩; have hbx := Lib.hid hh; clear hh; obtain ⟨⟨c0, c1, c2, c3, c4⟩, ⟨z0, z1, z2, z3, z4⟩, ⟨f0, f1, f2, f3, f4⟩, ⟨e0, e1, e2, e3, e4⟩⟩ := HX.out wx hbx.out))
    clear h5 hk hcn HE3
    have HBw := Lib.hid (below_next hb0.out hbx.out)
    have HSx : Hid (g1 + 1 < wx.heap.size) := Lib.hid (Nat.lt_of_lt_of_le HSz.out hbx.out.size)
    have hsrc : Hid (∀ c', Src Try.prog 1 54 (.slice A k c') k (svals m (XS.take k)) wx) := Lib.hid fun c' => by rw [← hm.out]; exact (HRA.out _ HBw.out).src (k := k) (by rw [HN.out, ← HK.out]; omega) c'
    go_upto_region 10 with (first
      | (refine wpList_append_mine rfl (.tmp 44) (.tmp 51) 54 54 rfl 22 i0 (.slice none 0 0) 24 Try.underlying54 HI0.out HZ0.out HZ1.out HZ2.out rfl (by decide) rfl (Mine.empty wx wx 1 none) (Below.refl _ _) _ k (svals m (XS.take k)) rfl (hsrc.out _) (by unfold maxLen; omega) (by omega) ?_; simp only [Nat.zero_add, List.nil_append]; intro A2 cc2 w2 hm2 hh2; have HM2 := Lib.hid hm2; have HB2 := Lib.hid hh2; clear hm2 hh2))
    clear c0 c1 c2 c3 c4 z0 z1 z2 z3 z4 f0 f1 f2 f3 f4 e0 e1 e2 e3 e4
    obtain ⟨⟨c0, c1, c2, c3, c4⟩, -, -, -⟩ := HX.out w2 (below_next hbx.out HB2.out)
    have hsrc2 : Hid (∀ w3, Below w2.heap.size w2 w3 → Src Try.prog 1 22 (.slice (XS.getD (n - 1) (none, 0)).1 m (XS.getD (n - 1) (none, 0)).2) m (icells a.nowl) w3) := Lib.hid fun w3 hh => by
      have := (HRA.out _ (below_next (below_next HBw.out HB2.out) hh)).now
      rw [HN.out] at this
      exact this.src (by rw [Auc.nowl_length]; exact hm.out) _
    go_upto_region 11 with (first
      | (go_at_call 40; (with_reducible refine (HNow.out _ (HRA.out _ (below_next HBw.out HB2.out))).mono ?_); rintro e w3 ⟨rfl, hh⟩; have HB3 := Lib.hid hh; have HS3 := Lib.hid (hsrc2.out w3 hh); clear hh)
      | (refine wpList_append_mine rfl (.tmp 53) (.tmp 55) 22 22 rfl 3 i1 (.int .i64 0) 8 Try.underlying22 HI1.out HY0.out HY1.out HY2.out rfl (by decide) rfl (Mine.empty w3 w3 1 none) (Below.refl _ _) _ m (icells a.nowl) rfl HS3.out (by unfold maxLen; omega) (by omega) ?_; simp only [Nat.zero_add, List.nil_append]; intro Al cl w4 hm4 hh4; have HM4 := Lib.hid hm4; have HB4 := Lib.hid hh4; clear hm4 hh4))
    obtain ⟨gl, ol, rfl, hgl, hcl, hfl, hst⟩ := HM4.out.store hwi.out
    have hcl2 : w4.cell? ⟨gl, ol + i, none⟩ = some (.int .i64 (a.nowl.getD i 0)) := by
      rw [hcl, icells_get _ (by rw [Auc.nowl_length, hm.out]; exact hwi.out)]
    have HM5 : Hid (Mine w3 (w4.setCell ⟨gl, ol + i, none⟩ (.int .i64 x)) 1 (.slice (some ⟨gl, ol, none⟩) m cl) m (icells (a.nowl.set i x))) := Lib.hid (by
      have := hst (.int .i64 x)
      rwa [show (icells a.nowl).set i (.int .i64 x) = icells (a.nowl.set i x) from by simp [icells, List.map_set]] at this)
    have HB5 : Hid (Below w3.heap.size w3 (w4.setCell ⟨gl, ol + i, none⟩ (.int .i64 x))) := Lib.hid (HB4.out.setCell (p := ⟨gl, ol + i, none⟩) hgl _)
    clear hcl hst hgl c0 c1 c2 c3 c4
    go_upto_region 12 with (fail)
    clear hcl2 hfl
    generalize World.setCell w4 _ _ = w5 at HM5 HB5 ⊢
    have HBa : Hid (Below w2.heap.size w2 (w5.alloc (.cells #[.slice (some ⟨gl, ol, none⟩) m cl] 22))) := Lib.hid ((below_next HB3.out HB5.out).alloc (below_next HB3.out HB5.out).size _)
    go_upto_region 13 with (first
      | (refine wpList_append_past rfl (.tmp 61) (.tmp 63) 54 54 rfl 22 i0 (.slice none 0 0) 24 Try.underlying54 HI0.out HZ0.out HZ1.out HZ2.out rfl (by decide) rfl HM2.out HB2.out HBa.out _ 1 [.slice (some ⟨gl, ol, none⟩) m cl] rfl (src_new Try.underlying54 _ _ _ 1 1 rfl (by simp [Value.oneCell'])) (by unfold maxLen; omega) (by omega) ?_; intro A3 cc3 w7 hm7 hh7 hs7 hk7; have HM7 := Lib.hid hm7; have HB7 := Lib.hid hh7; have HS7 := Lib.hid hs7; have HK7 := Lib.hid hk7; clear hm7 hh7 hs7 hk7))
    obtain ⟨⟨c0, c1, c2, c3, c4⟩, ⟨z0, z1, z2, z3, z4⟩, ⟨f0, f1, f2, f3, f4⟩, ⟨e0, e1, e2, e3, e4⟩⟩ := HX.out w7 (below_next hbx.out HB7.out)
    go_wp2
    (try simp only [Exit.inBlock, Exit.then])
    refine bodyPost_ret (by simp [results, Try.results38, asAddr, go_sem, z0, z1, z2, z3, z4]; rfl) rfl ?_
    have hB7 := ((below_next HBw.out HB7.out).setCell (p := ⟨g1, 4, none⟩) (by rw [HG.out]; exact Nat.le_refl _) (.slice A3 (k + 1) cc3))
    have hO : Only (fun b => b < wx.heap.size) w7 (w7.setCell ⟨g1, 4, none⟩ (.slice A3 (k + 1) cc3)) := (Only.refl _ _).setCell (.inl (by have := HSx.out; omega)) _
    refine rto E.out ?_ rfl rfl rfl rfl HM7.out.cap ?_ (below_five (g := g1 + 1) hB7 (by rw [HG.out]; omega) _ _ _ _ _) (rbid_last (cl := cl) (k := k) (w3 := w3) (w5 := w5) (w7 := w7) (wx := wx) (by rw [HN.out, HK.out]) (by rw [hm.out]; exact hwi.out) HBw.out.size (Nat.le_trans HB2.out.size HB3.out.size) (by rw [hm.out]; exact HM7.out) (by rw [hm.out]; exact HM5.out) ?_ ?_ (only_five (g := g1 + 1) hO HSx.out _ _ _ _ _))
    · rw [List.length_append, List.length_take, HN.out, ← HK.out, Nat.min_eq_left (by omega)]; rfl
    · show a.round = _
      rw [hround.out, ← HK.out]
    · exact Nat.le_trans (by simp) HS7.out
    · intro g hg1 hg2
      exact (HK7.out g (Nat.le_trans HB3.out.size hg1) (by simp; omega)).trans (heap_alloc_old w5 _ hg2)
  · have h7I : (1 : Int) < (n : Int) := by omega
    have h8 : ¬ wa < x := by omega
    have h8B : decide (wa < x) = false := by simpa using h8
    clear h7 h8 hp hfw
    go_upto_region 7 with (first
      | (go_at_call 40; (with_reducible refine (HNow.out _ (HRA.out _ hb0.out)).mono ?_); rintro e w1 ⟨rfl, hh⟩; have hb1 := Lib.hid hh; clear hh; obtain ⟨⟨c0, c1, c2, c3, c4⟩, ⟨z0, z1, z2, z3, z4⟩, ⟨f0, f1, f2, f3, f4⟩, ⟨e0, e1, e2, e3, e4⟩⟩ := HX.out w1 hb1.out)
      | (go_at_call 43; (with_reducible refine (HWas2.out _ (HRA.out _ (below_next hb0.out hb1.out))).mono ?_); rintro e wx ⟨rfl, hh⟩; have hbx := Lib.hid (below_next hb1.out hh); clear hh; obtain ⟨⟨c0, c1, c2, c3, c4⟩, ⟨z0, z1, z2, z3, z4⟩, ⟨f0, f1, f2, f3, f4⟩, ⟨e0, e1, e2, e3, e4⟩⟩ := HX.out wx hbx.out))
    clear h5 hk hcn HE3
    have HBw := Lib.hid (below_next hb0.out hbx.out)
    have HSx : Hid (g1 + 1 < wx.heap.size) := Lib.hid (Nat.lt_of_lt_of_le HSz.out hbx.out.size)
    have hsrc : Hid (∀ c', Src Try.prog 1 54 (.slice A k c') k (svals m (XS.take k)) wx) := Lib.hid fun c' => by rw [← hm.out]; exact (HRA.out _ HBw.out).src (k := k) (by rw [HN.out, ← HK.out]; omega) c'
    go_upto_region 10 with (first
      | (refine wpList_append_mine rfl (.tmp 44) (.tmp 51) 54 54 rfl 22 i0 (.slice none 0 0) 24 Try.underlying54 HI0.out HZ0.out HZ1.out HZ2.out rfl (by decide) rfl (Mine.empty wx wx 1 none) (Below.refl _ _) _ k (svals m (XS.take k)) rfl (hsrc.out _) (by unfold maxLen; omega) (by omega) ?_; simp only [Nat.zero_add, List.nil_append]; intro A2 cc2 w2 hm2 hh2; have HM2 := Lib.hid hm2; have HB2 := Lib.hid hh2; clear hm2 hh2))
    clear c0 c1 c2 c3 c4 z0 z1 z2 z3 z4 f0 f1 f2 f3 f4 e0 e1 e2 e3 e4
    obtain ⟨⟨c0, c1, c2, c3, c4⟩, -, -, -⟩ := HX.out w2 (below_next hbx.out HB2.out)
    have hsrc2 : Hid (∀ w3, Below w2.heap.size w2 w3 → Src Try.prog 1 22 (.slice (XS.getD (n - 1) (none, 0)).1 m (XS.getD (n - 1) (none, 0)).2) m (icells a.nowl) w3) := Lib.hid fun w3 hh => by
      have := (HRA.out _ (below_next (below_next HBw.out HB2.out) hh)).now
      rw [HN.out] at this
      exact this.src (by rw [Auc.nowl_length]; exact hm.out) _
    go_upto_region 11 with (first
      | (go_at_call 40; (with_reducible refine (HNow.out _ (HRA.out _ (below_next HBw.out HB2.out))).mono ?_); rintro e w3 ⟨rfl, hh⟩; have HB3 := Lib.hid hh; have HS3 := Lib.hid (hsrc2.out w3 hh); clear hh)
      | (refine wpList_append_mine rfl (.tmp 53) (.tmp 55) 22 22 rfl 3 i1 (.int .i64 0) 8 Try.underlying22 HI1.out HY0.out HY1.out HY2.out rfl (by decide) rfl (Mine.empty w3 w3 1 none) (Below.refl _ _) _ m (icells a.nowl) rfl HS3.out (by unfold maxLen; omega) (by omega) ?_; simp only [Nat.zero_add, List.nil_append]; intro Al cl w4 hm4 hh4; have HM4 := Lib.hid hm4; have HB4 := Lib.hid hh4; clear hm4 hh4))
    obtain ⟨gl, ol, rfl, hgl, hcl, hfl, hst⟩ := HM4.out.store hwi.out
    have hcl2 : w4.cell? ⟨gl, ol + i, none⟩ = some (.int .i64 (a.nowl.getD i 0)) := by
      rw [hcl, icells_get _ (by rw [Auc.nowl_length, hm.out]; exact hwi.out)]
    have HM5 : Hid (Mine w3 (w4.setCell ⟨gl, ol + i, none⟩ (.int .i64 x)) 1 (.slice (some ⟨gl, ol, none⟩) m cl) m (icells (a.nowl.set i x))) := Lib.hid (by
      have := hst (.int .i64 x)
      rwa [show (icells a.nowl).set i (.int .i64 x) = icells (a.nowl.set i x) from by simp [icells, List.map_set]] at this)
    have HB5 : Hid (Below w3.heap.size w3 (w4.setCell ⟨gl, ol + i, none⟩ (.int .i64 x))) := Lib.hid (HB4.out.setCell (p := ⟨gl, ol + i, none⟩) hgl _)
    clear hcl hst hgl c0 c1 c2 c3 c4
    go_upto_region 12 with (fail)
    clear hcl2 hfl
    generalize World.setCell w4 _ _ = w5 at HM5 HB5 ⊢
    have HBa : Hid (Below w2.heap.size w2 (w5.alloc (.cells #[.slice (some ⟨gl, ol, none⟩) m cl] 22))) := Lib.hid ((below_next HB3.out HB5.out).alloc (below_next HB3.out HB5.out).size _)
    go_upto_region 13 with (first
      | (refine wpList_append_past rfl (.tmp 61) (.tmp 63) 54 54 rfl 22 i0 (.slice none 0 0) 24 Try.underlying54 HI0.out HZ0.out HZ1.out HZ2.out rfl (by decide) rfl HM2.out HB2.out HBa.out _ 1 [.slice (some ⟨gl, ol, none⟩) m cl] rfl (src_new Try.underlying54 _ _ _ 1 1 rfl (by simp [Value.oneCell'])) (by unfold maxLen; omega) (by omega) ?_; intro A3 cc3 w7 hm7 hh7 hs7 hk7; have HM7 := Lib.hid hm7; have HB7 := Lib.hid hh7; have HS7 := Lib.hid hs7; have HK7 := Lib.hid hk7; clear hm7 hh7 hs7 hk7))
    obtain ⟨⟨c0, c1, c2, c3, c4⟩, ⟨z0, z1, z2, z3, z4⟩, ⟨f0, f1, f2, f3, f4⟩, ⟨e0, e1, e2, e3, e4⟩⟩ := HX.out w7 (below_next hbx.out HB7.out)
    go_wp2
    (try simp only [Exit.inBlock, Exit.then])
    refine bodyPost_ret (by simp [results, Try.results38, asAddr, go_sem, z0, z1, z2, z3, z4]; rfl) rfl ?_
    have hB7 := ((below_next HBw.out HB7.out).setCell (p := ⟨g1, 4, none⟩) (by rw [HG.out]; exact Nat.le_refl _) (.slice A3 (k + 1) cc3))
    have hO : Only (fun b => b < wx.heap.size) w7 (w7.setCell ⟨g1, 4, none⟩ (.slice A3 (k + 1) cc3)) := (Only.refl _ _).setCell (.inl (by have := HSx.out; omega)) _
    refine rto E.out ?_ rfl rfl rfl rfl HM7.out.cap ?_ (below_five (g := g1 + 1) hB7 (by rw [HG.out]; omega) _ _ _ _ _) (rbid_last (cl := cl) (k := k) (w3 := w3) (w5 := w5) (w7 := w7) (wx := wx) (by rw [HN.out, HK.out]) (by rw [hm.out]; exact hwi.out) HBw.out.size (Nat.le_trans HB2.out.size HB3.out.size) (by rw [hm.out]; exact HM7.out) (by rw [hm.out]; exact HM5.out) ?_ ?_ (only_five (g := g1 + 1) hO HSx.out _ _ _ _ _))
    · rw [List.length_append, List.length_take, HN.out, ← HK.out, Nat.min_eq_left (by omega)]; rfl
    · show a.round = _
      rw [hround.out, ← HK.out]
    · exact Nat.le_trans (by simp) HS7.out
    · intro g hg1 hg2
      exact (HK7.out g (Nat.le_trans HB3.out.size hg1) (by simp; omega)).trans (heap_alloc_old w5 _ hg2)
end Go.Proofs.Ytccmafmeblojpaa
