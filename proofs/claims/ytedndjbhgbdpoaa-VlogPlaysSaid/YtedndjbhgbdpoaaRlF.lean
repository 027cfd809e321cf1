/- The reference's Propose, Vote, Check (printed by genrf.py). -/
import Derived.Test.YtedndjbhgbdpoaaRlZ2
import Derived.Test.YtedndjbhgbdpoaaRlE
import Derived.Deep.DeepMust
namespace Go.Proofs.Ytedndjbhgbdpoaa
open Go.RowKit
set_option linter.unusedSimpArgs false
set_option linter.unusedVariables false
theorem taken_calls (w : World) (A B : Option Addr) (cA cB : Nat) (y : Rl) (L0 : List (Kb × Value)) (h : IRow w A y.L) (hk : KVRow w B L0) (hL0 : L0.map Prod.fst = y.kept) (hlo : 0 ≤ y.low ∧ y.low ≤ 1073741824) (hlen : y.L.length ≤ 900) (hkl : y.kept.length ≤ 900) (hn : y.n = 4 ∨ y.n = 7 ∨ y.n = 10 ∨ y.n = 13) (x : It) :
    Calls Try.prog 53 #[.agg #[.int .i64 y.n, .int .i64 y.view, .int .i64 y.low, .slice A y.L.length cA, .slice B y.kept.length cB], .agg #[.int .i64 x.kind, .int .i64 x.frm, .int .i64 x.view, .int .i64 x.seq, .string x.digest, .string x.batch, .int .i64 x.m.frm, .string x.m.body, .string x.m.sig]] w (TakenTo w A B y.L L0 y.n (y.taken x)) := by
  by_cases hs : x.kind = 5 ∨ (((y.more x).agree 3 x.seq).length : Int) < (y.more x).quorum
  · exact taken_short w A B cA cB y h L0 hk hL0 hlo hlen hn x hs
  · exact taken_long w A B cA cB y h L0 hk hL0 hlo hlen hn x (fun e => hs (.inl e)) (Int.not_lt.1 fun e => hs (.inr e)) hkl
theorem Lasts.call {w w1 w2 : World} {pre post : World → Prop} (hl : Lasts w1 w2 pre post) {g : Nat} (hw : w.heap.size ≤ g) (hg : g < w1.heap.size) (v0 v1 v2 v3 v4 : Value) : Lasts w (put5 w2 g v0 v1 v2 v3 v4) pre post := fun W' hs hb hp => by
  have e : (put5 w2 g v0 v1 v2 v3 v4).heap.size = w2.heap.size := by simp [put5]
  rw [e] at hs hb
  exact hl W' hs (fun b h1 h2 => (hb b (by omega) h2).trans (heap_five w2 (by omega) _ _ _ _ _)) hp
set_option maxHeartbeats 8000000 in
set_option maxRecDepth 20000 in
theorem rpropose_calls (w : World) (A B : Option Addr) (cA cB : Nat) (y : Rl) (L0 : List (Kb × Value)) (hL0 : L0.map Prod.fst = y.kept) (h : IRow w A y.L) (hk : KVRow w B L0) (hlo : 0 ≤ y.low ∧ y.low ≤ 1073741824) (hlen : y.L.length ≤ 900) (hkl : y.kept.length ≤ 900) (hn : y.n = 4 ∨ y.n = 7 ∨ y.n = 10 ∨ y.n = 13) (view seq : Int) (d bt : ByteArray) :
    Calls Try.prog 45 #[.agg #[.int .i64 y.n, .int .i64 y.view, .int .i64 y.low, .slice A y.L.length cA, .slice B y.kept.length cB], .int .i64 view, .int .i64 seq, .string d, .string bt] w (RTold w A B y.L L0 y.n (y.propose view seq d bt)) := by
  obtain ⟨yt, hyt⟩ : ∃ yt, Hid (y.taken ⟨2, 0, view, seq, d, bt, Sg.none⟩ = yt) := ⟨_, Lib.hid rfl⟩
  have HTk : Hid (∀ wx, Below w.heap.size w wx → Calls Try.prog 53 #[.agg #[.int .i64 y.n, .int .i64 y.view, .int .i64 y.low, .slice A y.L.length cA, .slice B y.kept.length cB], .agg #[.int .i64 2, .int .i64 0, .int .i64 view, .int .i64 seq, .string d, .string bt, .int .i64 0, .string ⟨#[]⟩, .string ⟨#[]⟩]] wx (TakenTo wx A B y.L L0 y.n yt)) := Lib.hid fun wx hb => by
    have := taken_calls wx A B cA cB y L0 (h.below hb) (hk.below hb) hL0 hlo hlen hkl hn ⟨2, 0, view, seq, d, bt, Sg.none⟩
    rw [hyt.out] at this
    exact this
  have HPr : Hid (∀ wx, Below w.heap.size w wx → Calls Try.prog 52 #[.agg #[.int .i64 y.n, .int .i64 y.view, .int .i64 y.low, .slice A y.L.length cA, .slice B y.kept.length cB], .int .i64 seq] wx fun e w' => e = .returned (.tuple #[.agg #[.int .i64 ((y.proposal seq).getD It.none).kind, .int .i64 ((y.proposal seq).getD It.none).frm, .int .i64 ((y.proposal seq).getD It.none).view, .int .i64 ((y.proposal seq).getD It.none).seq, .string ((y.proposal seq).getD It.none).digest, .string ((y.proposal seq).getD It.none).batch, .int .i64 ((y.proposal seq).getD It.none).m.frm, .string ((y.proposal seq).getD It.none).m.body, .string ((y.proposal seq).getD It.none).m.sig], .bool (y.proposal seq).isSome]) ∧ Below wx.heap.size wx w') := Lib.hid fun wx hb => rproposal_calls wx A B cA y.kept.length cB y (h.below hb) hlo (by omega) seq
  have HWi : Hid (∀ wx, Calls Try.prog 51 #[.agg #[.int .i64 y.n, .int .i64 y.view, .int .i64 y.low, .slice A y.L.length cA, .slice B y.kept.length cB], .int .i64 seq] wx fun e w' => e = .returned (.bool (decide (y.low < seq ∧ seq ≤ y.low + 8))) ∧ Below wx.heap.size wx w') := Lib.hid fun wx => rwithin_calls wx y.n y.view y.low A B y.L.length cA y.kept.length cB seq hlo.1 hlo.2
  have HE : Hid (y.propose view seq d bt = if d = noText then ((y, 1) : Rl × Int) else if view ≠ y.view ∨ ¬ (y.low < seq ∧ seq ≤ y.low + 8) then (y, 100) else match y.proposal seq with | some p => if p.digest = d ∧ p.batch = bt then (y, 101) else (y, 102) | Option.none => (yt, 0)) := Lib.hid (by
    unfold Rl.propose Rl.within
    rw [hyt.out]
    rcases y.proposal seq with _ | p <;> rfl)
  have HL0 := Lib.hid hL0
  obtain ⟨m, hm⟩ : ∃ m, Hid (y.L.length = m) := ⟨_, Lib.hid rfl⟩
  obtain ⟨k, hkk⟩ : ∃ k, Hid (y.kept.length = k) := ⟨_, Lib.hid rfl⟩
  obtain ⟨n, hnn⟩ : ∃ n, Hid (y.n = n) := ⟨_, Lib.hid rfl⟩
  obtain ⟨v, hv⟩ : ∃ v, Hid (y.view = v) := ⟨_, Lib.hid rfl⟩
  obtain ⟨lo, hl⟩ : ∃ lo, Hid (y.low = lo) := ⟨_, Lib.hid rfl⟩
  (try rw [hnn.out] at HTk)
  (try rw [hv.out] at HTk)
  (try rw [hl.out] at HTk)
  (try rw [hm.out] at HTk)
  (try rw [hkk.out] at HTk)
  (try rw [hnn.out] at HPr)
  (try rw [hv.out] at HPr)
  (try rw [hl.out] at HPr)
  (try rw [hm.out] at HPr)
  (try rw [hkk.out] at HPr)
  (try rw [hnn.out] at HWi)
  (try rw [hv.out] at HWi)
  (try rw [hl.out] at HWi)
  (try rw [hm.out] at HWi)
  (try rw [hkk.out] at HWi)
  (try rw [hnn.out] at HE)
  (try rw [hv.out] at HE)
  (try rw [hl.out] at HE)
  (try rw [hm.out] at HE)
  (try rw [hkk.out] at HE)
  rw [hm.out, hkk.out, hnn.out, hv.out, hl.out]
  clear h hk hlo hlen hkl hn hL0
  have hb0 : Hid (Below w.heap.size w ((w.alloc (.cells #[.int .i64 n, .int .i64 v, .int .i64 lo, .slice A m cA, .slice B k cB] 65)).alloc (.cells #[.int .i64 0, .int .i64 0, .int .i64 0, .slice none 0 0, .slice none 0 0] 65))) := Lib.hid (((Below.refl _ _).alloc (Nat.le_refl _) _).alloc (by simp) _)
  have B0 : Hid (Blk ((w.alloc (.cells #[.int .i64 n, .int .i64 v, .int .i64 lo, .slice A m cA, .slice B k cB] 65)).alloc (.cells #[.int .i64 0, .int .i64 0, .int .i64 0, .slice none 0 0, .slice none 0 0] 65)) w.heap.size 65 #[.int .i64 n, .int .i64 v, .int .i64 lo, .slice A m cA, .slice B k cB]) := Lib.hid ((Blk.new w 65 #[.int .i64 n, .int .i64 v, .int .i64 lo, .slice A m cA, .slice B k cB]).alloc (.cells #[.int .i64 0, .int .i64 0, .int .i64 0, .slice none 0 0, .slice none 0 0] 65))
  have B1 : Hid (Blk ((w.alloc (.cells #[.int .i64 n, .int .i64 v, .int .i64 lo, .slice A m cA, .slice B k cB] 65)).alloc (.cells #[.int .i64 0, .int .i64 0, .int .i64 0, .slice none 0 0, .slice none 0 0] 65)) (w.heap.size + 1) 65 #[.int .i64 0, .int .i64 0, .int .i64 0, .slice none 0 0, .slice none 0 0]) := Lib.hid (by have := (Blk.new (w.alloc (.cells #[.int .i64 n, .int .i64 v, .int .i64 lo, .slice A m cA, .slice B k cB] 65)) 65 #[.int .i64 0, .int .i64 0, .int .i64 0, .slice none 0 0, .slice none 0 0]); simpa using this)
  go_enter Try.func45, Try.ntmps45
  go_upto_region 1 with (fail)
  obtain ⟨g1, hg1⟩ : ∃ g1, w.heap.size = g1 := ⟨_, rfl⟩
  have HG := Lib.hid hg1
  rw [hg1] at B0 B1 ⊢
  clear hg1
  generalize World.alloc (World.alloc w _) _ = wy at hb0 B0 B1 ⊢
  have HX : Hid (∀ wx : World, Below wy.heap.size wy wx → (wx.cell? ⟨g1, 0, none⟩ = some (.int .i64 n) ∧ wx.cell? ⟨g1, 1, none⟩ = some (.int .i64 v) ∧ wx.cell? ⟨g1, 2, none⟩ = some (.int .i64 lo) ∧ wx.cell? ⟨g1, 3, none⟩ = some (.slice A m cA) ∧ wx.cell? ⟨g1, 4, none⟩ = some (.slice B k cB)) ∧ (wx.cell? ⟨g1 + 1, 0, none⟩ = some (.int .i64 0) ∧ wx.cell? ⟨g1 + 1, 1, none⟩ = some (.int .i64 0) ∧ wx.cell? ⟨g1 + 1, 2, none⟩ = some (.int .i64 0) ∧ wx.cell? ⟨g1 + 1, 3, none⟩ = some (.slice none 0 0) ∧ wx.cell? ⟨g1 + 1, 4, none⟩ = some (.slice none 0 0)) ∧ (wx.frozen? ⟨g1 + 1, 0, none⟩ = false ∧ wx.frozen? ⟨g1 + 1, 1, none⟩ = false ∧ wx.frozen? ⟨g1 + 1, 2, none⟩ = false ∧ wx.frozen? ⟨g1 + 1, 3, none⟩ = false ∧ wx.frozen? ⟨g1 + 1, 4, none⟩ = false) ∧ (wx.frozen? ⟨g1, 0, none⟩ = false ∧ wx.frozen? ⟨g1, 1, none⟩ = false ∧ wx.frozen? ⟨g1, 2, none⟩ = false ∧ wx.frozen? ⟨g1, 3, none⟩ = false ∧ wx.frozen? ⟨g1, 4, none⟩ = false)) := Lib.hid fun wx hb => by
    have b0 := B0.out.below hb B0.out.lt
    have b1 := B1.out.below hb B1.out.lt
    exact ⟨⟨b0.cell 0, b0.cell 1, b0.cell 2, b0.cell 3, b0.cell 4⟩, ⟨b1.cell 0, b1.cell 1, b1.cell 2, b1.cell 3, b1.cell 4⟩, ⟨b1.frozen 0, b1.frozen 1, b1.frozen 2, b1.frozen 3, b1.frozen 4⟩, ⟨b0.frozen 0, b0.frozen 1, b0.frozen 2, b0.frozen 3, b0.frozen 4⟩⟩
  have HGR : Hid (g1 + 1 < wy.heap.size) := Lib.hid B1.out.lt
  obtain ⟨⟨c0, c1, c2, c3, c4⟩, ⟨z0, z1, z2, z3, z4⟩, ⟨f0, f1, f2, f3, f4⟩, ⟨e0, e1, e2, e3, e4⟩⟩ := HX.out wy (Below.refl _ _)
  by_cases hd : d = noText
  · subst hd
    have E : Hid (y.propose view seq noText bt = (y, 1)) := Lib.hid (by rw [HE.out, if_pos rfl])
    clear HTk HPr HWi HE
    rw [E.out]
    have E : Hid ((y, (1 : Int)) = (y, 1)) := Lib.hid rfl
    unfold noText
    go_wp2
    (try simp only [Exit.inBlock, Exit.then])
    refine bodyPost_ret (by simp [results, Try.results45, asAddr, go_sem, z0, z1, z2, z3, z4]; rfl) rfl ?_
    have hbz := below_five (B := w.heap.size) (g := g1 + 1) (below_next hb0.out (Below.refl _ _)) (by rw [HG.out]; omega) (.int .i64 n) (.int .i64 v) (.int .i64 lo) (.slice A m cA) (.slice B k cB)
    exact rtold rfl hm.out hkk.out hv.out hl.out HL0.out hbz (Lasts.same _ _ _)
  · obtain ⟨t1, t2, t3⟩ := text_none hd
    have t4 : (d == (⟨#[]⟩ : ByteArray)) = false := text_differ hd
    have HE2 : Hid (y.propose view seq d bt = if view ≠ v ∨ ¬ (lo < seq ∧ seq ≤ lo + 8) then ((y, 100) : Rl × Int) else match y.proposal seq with | some p => if p.digest = d ∧ p.batch = bt then (y, 101) else (y, 102) | Option.none => (yt, 0)) := Lib.hid (by rw [HE.out, if_neg hd])
    clear HE
    by_cases hvv : view = v
    · have hvB : (view != v) = false := by simpa using hvv
      have HVV := Lib.hid hvv
      clear hvv
      have HB2 : Hid (Below wy.heap.size wy wy) := Lib.hid (Below.refl _ _)
      by_cases hw : lo < seq ∧ seq ≤ lo + 8
      · have HWx : Hid (∀ w, _) := HWi
        rw [decide_eq_true hw] at HWx
        have HE3 : Hid (y.propose view seq d bt = match y.proposal seq with | some p => if p.digest = d ∧ p.batch = bt then ((y, 101) : Rl × Int) else (y, 102) | Option.none => (yt, 0)) := Lib.hid (by rw [HE2.out, if_neg (by rintro (h | h); exact h HVV.out; exact h hw)])
        clear HE2 hw HWi
        have HPx : Hid (∀ w, _) := HPr
        cases hpo : y.proposal seq with
        | none =>
          have E : Hid (y.propose view seq d bt = (yt, 0)) := Lib.hid (by rw [HE3.out, hpo])
          rw [hpo] at HPx
          simp only [Option.getD_none, Option.isSome_none] at HPx
          generalize It.none = p at HPx
          clear hpo HE3 HPr
          go_upto_region 6 with (first
            | (go_at_call 51; (with_reducible refine (HWx.out _).mono ?_); rintro e w2 ⟨rfl, hh⟩; have HB2 := Lib.hid hh; clear hh c0 c1 c2 c3 c4 z0 z1 z2 z3 z4 f0 f1 f2 f3 f4 e0 e1 e2 e3 e4; obtain ⟨⟨c0, c1, c2, c3, c4⟩, ⟨z0, z1, z2, z3, z4⟩, ⟨f0, f1, f2, f3, f4⟩, ⟨e0, e1, e2, e3, e4⟩⟩ := HX.out w2 HB2.out)
            | (go_at_call 52; (with_reducible refine (HPx.out _ (below_next hb0.out HB2.out)).mono ?_); rintro e w3 ⟨rfl, hh⟩; have HB3 := Lib.hid (below_next HB2.out hh); clear hh c0 c1 c2 c3 c4 z0 z1 z2 z3 z4 f0 f1 f2 f3 f4 e0 e1 e2 e3 e4))
          have B4 : Hid (Blk (w3.alloc (.cells #[.int .i64 p.kind, .int .i64 p.frm, .int .i64 p.view, .int .i64 p.seq, .string p.digest, .string p.batch, .int .i64 p.m.frm, .string p.m.body, .string p.m.sig] 106)) w3.heap.size 106 #[.int .i64 p.kind, .int .i64 p.frm, .int .i64 p.view, .int .i64 p.seq, .string p.digest, .string p.batch, .int .i64 p.m.frm, .string p.m.body, .string p.m.sig]) := Lib.hid (Blk.new _ _ _)
          have HB4 : Hid (Below wy.heap.size wy (w3.alloc (.cells #[.int .i64 p.kind, .int .i64 p.frm, .int .i64 p.view, .int .i64 p.seq, .string p.digest, .string p.batch, .int .i64 p.m.frm, .string p.m.body, .string p.m.sig] 106))) := Lib.hid (HB3.out.alloc HB3.out.size _)
          obtain ⟨gp, hgp⟩ : ∃ gp, w3.heap.size = gp := ⟨_, rfl⟩
          rw [hgp] at B4 ⊢
          clear hgp HB3
          generalize World.alloc w3 _ = w4 at B4 HB4 ⊢
          obtain ⟨⟨c0, c1, c2, c3, c4⟩, ⟨z0, z1, z2, z3, z4⟩, ⟨f0, f1, f2, f3, f4⟩, ⟨e0, e1, e2, e3, e4⟩⟩ := HX.out w4 HB4.out
          have HTx := Lib.hid (HTk.out w4 (below_next hb0.out HB4.out))
          have HGR : Hid (g1 + 1 < w4.heap.size) := Lib.hid (Nat.lt_of_lt_of_le HGR.out HB4.out.size)
          clear HTk HPx
          go_wp2_with (first
            | (go_at_call 53; go_must ((with_reducible refine (HTx.out).mono ?_); rintro e wt ⟨A', c', B', cB', L1, rfl, hL1, hbt, hla⟩; have HL1 := Lib.hid hL1; have HBT := Lib.hid (below_next HB4.out hbt); have HLa := Lib.hid hla; clear hL1 hbt hla c0 c1 c2 c3 c4 z0 z1 z2 z3 z4 f0 f1 f2 f3 f4 e0 e1 e2 e3 e4; obtain ⟨⟨c0, c1, c2, c3, c4⟩, ⟨z0, z1, z2, z3, z4⟩, ⟨f0, f1, f2, f3, f4⟩, ⟨e0, e1, e2, e3, e4⟩⟩ := HX.out wt HBT.out)))
          (try simp only [Exit.inBlock, Exit.then])
          refine bodyPost_ret (by simp [results, Try.results45, asAddr, go_sem, z0, z1, z2, z3, z4]; rfl) rfl ?_
          exact rtold E.out rfl rfl rfl rfl HL1.out (below_five (B := w.heap.size) (g := g1 + 1) (below_next hb0.out HBT.out) (by rw [HG.out]; omega) _ _ _ _ _) (HLa.out.call (by rw [HG.out]; omega) HGR.out _ _ _ _ _)
        | some p =>
          have HE4 : Hid (y.propose view seq d bt = if p.digest = d ∧ p.batch = bt then ((y, 101) : Rl × Int) else (y, 102)) := Lib.hid (by rw [HE3.out, hpo])
          rw [hpo] at HPx
          simp only [Option.getD_some, Option.isSome_some] at HPx
          clear hpo HE3 HPr HTk
          go_upto_region 6 with (first
            | (go_at_call 51; (with_reducible refine (HWx.out _).mono ?_); rintro e w2 ⟨rfl, hh⟩; have HB2 := Lib.hid hh; clear hh c0 c1 c2 c3 c4 z0 z1 z2 z3 z4 f0 f1 f2 f3 f4 e0 e1 e2 e3 e4; obtain ⟨⟨c0, c1, c2, c3, c4⟩, ⟨z0, z1, z2, z3, z4⟩, ⟨f0, f1, f2, f3, f4⟩, ⟨e0, e1, e2, e3, e4⟩⟩ := HX.out w2 HB2.out)
            | (go_at_call 52; (with_reducible refine (HPx.out _ (below_next hb0.out HB2.out)).mono ?_); rintro e w3 ⟨rfl, hh⟩; have HB3 := Lib.hid (below_next HB2.out hh); clear hh c0 c1 c2 c3 c4 z0 z1 z2 z3 z4 f0 f1 f2 f3 f4 e0 e1 e2 e3 e4))
          have B4 : Hid (Blk (w3.alloc (.cells #[.int .i64 p.kind, .int .i64 p.frm, .int .i64 p.view, .int .i64 p.seq, .string p.digest, .string p.batch, .int .i64 p.m.frm, .string p.m.body, .string p.m.sig] 106)) w3.heap.size 106 #[.int .i64 p.kind, .int .i64 p.frm, .int .i64 p.view, .int .i64 p.seq, .string p.digest, .string p.batch, .int .i64 p.m.frm, .string p.m.body, .string p.m.sig]) := Lib.hid (Blk.new _ _ _)
          have HB4 : Hid (Below wy.heap.size wy (w3.alloc (.cells #[.int .i64 p.kind, .int .i64 p.frm, .int .i64 p.view, .int .i64 p.seq, .string p.digest, .string p.batch, .int .i64 p.m.frm, .string p.m.body, .string p.m.sig] 106))) := Lib.hid (HB3.out.alloc HB3.out.size _)
          obtain ⟨gp, hgp⟩ : ∃ gp, w3.heap.size = gp := ⟨_, rfl⟩
          rw [hgp] at B4 ⊢
          clear hgp HB3
          generalize World.alloc w3 _ = w4 at B4 HB4 ⊢
          obtain ⟨⟨c0, c1, c2, c3, c4⟩, ⟨z0, z1, z2, z3, z4⟩, ⟨f0, f1, f2, f3, f4⟩, ⟨e0, e1, e2, e3, e4⟩⟩ := HX.out w4 HB4.out
          have p4 : w4.cell? ⟨gp, 4, none⟩ = some (.string p.digest) := B4.out.cell 4
          have p5 : w4.cell? ⟨gp, 5, none⟩ = some (.string p.batch) := B4.out.cell 5
          by_cases h1 : p.digest = d
          · by_cases h2 : p.batch = bt
            · have E : Hid (y.propose view seq d bt = (y, 101)) := Lib.hid (by rw [HE4.out, if_pos ⟨h1, h2⟩])
              rw [h1] at p4
              rw [h2] at p5
              go_wp2
              (try simp only [Exit.inBlock, Exit.then])
              refine bodyPost_ret (by simp [results, Try.results45, asAddr, go_sem, z0, z1, z2, z3, z4]; rfl) rfl ?_
              have hbz := below_five (B := w.heap.size) (g := g1 + 1) (below_next hb0.out HB4.out) (by rw [HG.out]; omega) (.int .i64 n) (.int .i64 v) (.int .i64 lo) (.slice A m cA) (.slice B k cB)
              exact rtold E.out hm.out hkk.out hv.out hl.out HL0.out hbz (Lasts.same _ _ _)
            · have E : Hid (y.propose view seq d bt = (y, 102)) := Lib.hid (by rw [HE4.out, if_neg (fun h => h2 h.2)])
              rw [h1] at p4
              have k2 := text_ne h2
              have k3 := text_apart h2
              have k4 := text_differ h2
              go_wp2
              (try simp only [Exit.inBlock, Exit.then])
              refine bodyPost_ret (by simp [results, Try.results45, asAddr, go_sem, z0, z1, z2, z3, z4]; rfl) rfl ?_
              have hbz := below_five (B := w.heap.size) (g := g1 + 1) (below_next hb0.out HB4.out) (by rw [HG.out]; omega) (.int .i64 n) (.int .i64 v) (.int .i64 lo) (.slice A m cA) (.slice B k cB)
              exact rtold E.out hm.out hkk.out hv.out hl.out HL0.out hbz (Lasts.same _ _ _)
          · have E : Hid (y.propose view seq d bt = (y, 102)) := Lib.hid (by rw [HE4.out, if_neg (fun h => h1 h.1)])
            have k2 := text_ne h1
            have k3 := text_apart h1
            have k4 := text_differ h1
            go_wp2
            (try simp only [Exit.inBlock, Exit.then])
            refine bodyPost_ret (by simp [results, Try.results45, asAddr, go_sem, z0, z1, z2, z3, z4]; rfl) rfl ?_
            have hbz := below_five (B := w.heap.size) (g := g1 + 1) (below_next hb0.out HB4.out) (by rw [HG.out]; omega) (.int .i64 n) (.int .i64 v) (.int .i64 lo) (.slice A m cA) (.slice B k cB)
            exact rtold E.out hm.out hkk.out hv.out hl.out HL0.out hbz (Lasts.same _ _ _)
      · have HWx : Hid (∀ w, _) := HWi
        rw [decide_eq_false hw] at HWx
        have E : Hid (y.propose view seq d bt = (y, 100)) := Lib.hid (by rw [HE2.out, if_pos (.inr hw)])
        clear HE2 hw HWi HPr HTk
        go_wp2_with (first
          | (go_at_call 51; (with_reducible refine (HWx.out _).mono ?_); rintro e w2 ⟨rfl, hh⟩; have HB2 := Lib.hid hh; clear hh c0 c1 c2 c3 c4 z0 z1 z2 z3 z4 f0 f1 f2 f3 f4 e0 e1 e2 e3 e4; obtain ⟨⟨c0, c1, c2, c3, c4⟩, ⟨z0, z1, z2, z3, z4⟩, ⟨f0, f1, f2, f3, f4⟩, ⟨e0, e1, e2, e3, e4⟩⟩ := HX.out w2 HB2.out))
        (try simp only [Exit.inBlock, Exit.then])
        refine bodyPost_ret (by simp [results, Try.results45, asAddr, go_sem, z0, z1, z2, z3, z4]; rfl) rfl ?_
        have hbz := below_five (B := w.heap.size) (g := g1 + 1) (below_next hb0.out HB2.out) (by rw [HG.out]; omega) (.int .i64 n) (.int .i64 v) (.int .i64 lo) (.slice A m cA) (.slice B k cB)
        exact rtold E.out hm.out hkk.out hv.out hl.out HL0.out hbz (Lasts.same _ _ _)
    · have E : Hid (y.propose view seq d bt = (y, 100)) := Lib.hid (by rw [HE2.out, if_pos (.inl hvv)])
      have hvB : (view != v) = true := by simpa using hvv
      clear HTk HPr HWi HE2
      go_wp2
      (try simp only [Exit.inBlock, Exit.then])
      refine bodyPost_ret (by simp [results, Try.results45, asAddr, go_sem, z0, z1, z2, z3, z4]; rfl) rfl ?_
      have hbz := below_five (B := w.heap.size) (g := g1 + 1) (below_next hb0.out (Below.refl _ _)) (by rw [HG.out]; omega) (.int .i64 n) (.int .i64 v) (.int .i64 lo) (.slice A m cA) (.slice B k cB)
      exact rtold E.out hm.out hkk.out hv.out hl.out HL0.out hbz (Lasts.same _ _ _)
set_option maxHeartbeats 8000000 in
set_option maxRecDepth 20000 in
theorem rvote3_calls (w : World) (A B : Option Addr) (cA cB : Nat) (y : Rl) (L0 : List (Kb × Value)) (hL0 : L0.map Prod.fst = y.kept) (h : IRow w A y.L) (hk : KVRow w B L0) (hlo : 0 ≤ y.low ∧ y.low ≤ 1073741824) (hlen : y.L.length ≤ 900) (hkl : y.kept.length ≤ 900) (hn : y.n = 4 ∨ y.n = 7 ∨ y.n = 10 ∨ y.n = 13) (mf : Int) (mb ms : ByteArray) (vw seq : Int) (d : ByteArray) :
    Calls Try.prog 46 #[.agg #[.int .i64 y.n, .int .i64 y.view, .int .i64 y.low, .slice A y.L.length cA, .slice B y.kept.length cB], .agg #[.int .i64 mf, .string mb, .string ms], .agg #[.int .i64 3, .int .i64 vw, .int .i64 seq, .int .i64 0, .int .i64 0, .string d, .string ⟨#[]⟩, .slice none 0 0]] w (RTold w A B y.L L0 y.n (y.vote ⟨mf, mb, ms⟩ 3 vw seq d)) := by
  obtain ⟨yt, hyt⟩ : ∃ yt, Hid (y.taken ⟨3, mf, vw, seq, d, noText, ⟨mf, mb, ms⟩⟩ = yt) := ⟨_, Lib.hid rfl⟩
  have HTk : Hid (∀ wx, Below w.heap.size w wx → Calls Try.prog 53 #[.agg #[.int .i64 y.n, .int .i64 y.view, .int .i64 y.low, .slice A y.L.length cA, .slice B y.kept.length cB], .agg #[.int .i64 3, .int .i64 mf, .int .i64 vw, .int .i64 seq, .string d, .string ⟨#[]⟩, .int .i64 mf, .string mb, .string ms]] wx (TakenTo wx A B y.L L0 y.n yt)) := Lib.hid fun wx hb => by
    have := taken_calls wx A B cA cB y L0 (h.below hb) (hk.below hb) hL0 hlo hlen hkl hn ⟨3, mf, vw, seq, d, noText, ⟨mf, mb, ms⟩⟩
    rw [hyt.out] at this
    exact this
  have HPr : Hid (∀ wx, Below w.heap.size w wx → Calls Try.prog 54 #[.agg #[.int .i64 y.n, .int .i64 y.view, .int .i64 y.low, .slice A y.L.length cA, .slice B y.kept.length cB], .int .i64 3, .int .i64 seq, .int .i64 mf] wx fun e w' => e = .returned (.tuple #[.agg #[.int .i64 ((y.voted 3 seq mf).getD It.none).kind, .int .i64 ((y.voted 3 seq mf).getD It.none).frm, .int .i64 ((y.voted 3 seq mf).getD It.none).view, .int .i64 ((y.voted 3 seq mf).getD It.none).seq, .string ((y.voted 3 seq mf).getD It.none).digest, .string ((y.voted 3 seq mf).getD It.none).batch, .int .i64 ((y.voted 3 seq mf).getD It.none).m.frm, .string ((y.voted 3 seq mf).getD It.none).m.body, .string ((y.voted 3 seq mf).getD It.none).m.sig], .bool (y.voted 3 seq mf).isSome]) ∧ Below wx.heap.size wx w') := Lib.hid fun wx hb => rvoted_calls wx A B cA y.kept.length cB y (h.below hb) hlo (by omega) 3 seq mf
  have HWi : Hid (∀ wx, Calls Try.prog 51 #[.agg #[.int .i64 y.n, .int .i64 y.view, .int .i64 y.low, .slice A y.L.length cA, .slice B y.kept.length cB], .int .i64 seq] wx fun e w' => e = .returned (.bool (decide (y.low < seq ∧ seq ≤ y.low + 8))) ∧ Below wx.heap.size wx w') := Lib.hid fun wx => rwithin_calls wx y.n y.view y.low A B y.L.length cA y.kept.length cB seq hlo.1 hlo.2
  have HE : Hid (y.vote ⟨mf, mb, ms⟩ 3 vw seq d = if mf < 0 ∨ y.n ≤ mf then ((y, 1) : Rl × Int) else if vw ≠ y.view ∨ ¬ (y.low < seq ∧ seq ≤ y.low + 8) then (y, 100) else match y.voted 3 seq mf with | some p => if p.digest = d then (y, 101) else (y, 102) | Option.none => (yt, 0)) := Lib.hid (by
    unfold Rl.vote Rl.within
    rw [hyt.out]
    rcases y.voted 3 seq mf with _ | p <;> simp)
  have HL0 := Lib.hid hL0
  obtain ⟨m, hm⟩ : ∃ m, Hid (y.L.length = m) := ⟨_, Lib.hid rfl⟩
  obtain ⟨k, hkk⟩ : ∃ k, Hid (y.kept.length = k) := ⟨_, Lib.hid rfl⟩
  obtain ⟨n, hnn⟩ : ∃ n, Hid (y.n = n) := ⟨_, Lib.hid rfl⟩
  obtain ⟨v, hv⟩ : ∃ v, Hid (y.view = v) := ⟨_, Lib.hid rfl⟩
  obtain ⟨lo, hl⟩ : ∃ lo, Hid (y.low = lo) := ⟨_, Lib.hid rfl⟩
  (try rw [hnn.out] at HTk)
  (try rw [hv.out] at HTk)
  (try rw [hl.out] at HTk)
  (try rw [hm.out] at HTk)
  (try rw [hkk.out] at HTk)
  (try rw [hnn.out] at HE)
  (try rw [hv.out] at HE)
  (try rw [hl.out] at HE)
  (try rw [hm.out] at HE)
  (try rw [hkk.out] at HE)
  (try rw [hnn.out] at HPr)
  (try rw [hv.out] at HPr)
  (try rw [hl.out] at HPr)
  (try rw [hm.out] at HPr)
  (try rw [hkk.out] at HPr)
  (try rw [hnn.out] at HWi)
  (try rw [hv.out] at HWi)
  (try rw [hl.out] at HWi)
  (try rw [hm.out] at HWi)
  (try rw [hkk.out] at HWi)
  rw [hm.out, hkk.out, hnn.out, hv.out, hl.out]
  clear h hk hlo hlen hkl hn hL0
  have hb0 : Hid (Below w.heap.size w ((((w.alloc (.cells #[.int .i64 n, .int .i64 v, .int .i64 lo, .slice A m cA, .slice B k cB] 65)).alloc (.cells #[.int .i64 mf, .string mb, .string ms] 48)).alloc (.cells #[.int .i64 3, .int .i64 vw, .int .i64 seq, .int .i64 0, .int .i64 0, .string d, .string ⟨#[]⟩, .slice none 0 0] 46)).alloc (.cells #[.int .i64 0, .int .i64 0, .int .i64 0, .slice none 0 0, .slice none 0 0] 65))) := Lib.hid (((((Below.refl _ _).alloc (Nat.le_refl _) _).alloc (by simp) _).alloc (by simp; omega) _).alloc (by simp; omega) _)
  have B0 : Hid (Blk ((((w.alloc (.cells #[.int .i64 n, .int .i64 v, .int .i64 lo, .slice A m cA, .slice B k cB] 65)).alloc (.cells #[.int .i64 mf, .string mb, .string ms] 48)).alloc (.cells #[.int .i64 3, .int .i64 vw, .int .i64 seq, .int .i64 0, .int .i64 0, .string d, .string ⟨#[]⟩, .slice none 0 0] 46)).alloc (.cells #[.int .i64 0, .int .i64 0, .int .i64 0, .slice none 0 0, .slice none 0 0] 65)) w.heap.size 65 #[.int .i64 n, .int .i64 v, .int .i64 lo, .slice A m cA, .slice B k cB]) := Lib.hid ((((Blk.new w 65 #[.int .i64 n, .int .i64 v, .int .i64 lo, .slice A m cA, .slice B k cB]).alloc (.cells #[.int .i64 mf, .string mb, .string ms] 48)).alloc (.cells #[.int .i64 3, .int .i64 vw, .int .i64 seq, .int .i64 0, .int .i64 0, .string d, .string ⟨#[]⟩, .slice none 0 0] 46)).alloc (.cells #[.int .i64 0, .int .i64 0, .int .i64 0, .slice none 0 0, .slice none 0 0] 65))
  have B1 : Hid (Blk ((((w.alloc (.cells #[.int .i64 n, .int .i64 v, .int .i64 lo, .slice A m cA, .slice B k cB] 65)).alloc (.cells #[.int .i64 mf, .string mb, .string ms] 48)).alloc (.cells #[.int .i64 3, .int .i64 vw, .int .i64 seq, .int .i64 0, .int .i64 0, .string d, .string ⟨#[]⟩, .slice none 0 0] 46)).alloc (.cells #[.int .i64 0, .int .i64 0, .int .i64 0, .slice none 0 0, .slice none 0 0] 65)) (w.heap.size + 1) 48 #[.int .i64 mf, .string mb, .string ms]) := Lib.hid (by have := (((Blk.new (w.alloc (.cells #[.int .i64 n, .int .i64 v, .int .i64 lo, .slice A m cA, .slice B k cB] 65)) 48 #[.int .i64 mf, .string mb, .string ms]).alloc (.cells #[.int .i64 3, .int .i64 vw, .int .i64 seq, .int .i64 0, .int .i64 0, .string d, .string ⟨#[]⟩, .slice none 0 0] 46)).alloc (.cells #[.int .i64 0, .int .i64 0, .int .i64 0, .slice none 0 0, .slice none 0 0] 65)); simpa using this)
  have B2 : Hid (Blk ((((w.alloc (.cells #[.int .i64 n, .int .i64 v, .int .i64 lo, .slice A m cA, .slice B k cB] 65)).alloc (.cells #[.int .i64 mf, .string mb, .string ms] 48)).alloc (.cells #[.int .i64 3, .int .i64 vw, .int .i64 seq, .int .i64 0, .int .i64 0, .string d, .string ⟨#[]⟩, .slice none 0 0] 46)).alloc (.cells #[.int .i64 0, .int .i64 0, .int .i64 0, .slice none 0 0, .slice none 0 0] 65)) (w.heap.size + 1 + 1) 46 #[.int .i64 3, .int .i64 vw, .int .i64 seq, .int .i64 0, .int .i64 0, .string d, .string ⟨#[]⟩, .slice none 0 0]) := Lib.hid (by have := ((Blk.new ((w.alloc (.cells #[.int .i64 n, .int .i64 v, .int .i64 lo, .slice A m cA, .slice B k cB] 65)).alloc (.cells #[.int .i64 mf, .string mb, .string ms] 48)) 46 #[.int .i64 3, .int .i64 vw, .int .i64 seq, .int .i64 0, .int .i64 0, .string d, .string ⟨#[]⟩, .slice none 0 0]).alloc (.cells #[.int .i64 0, .int .i64 0, .int .i64 0, .slice none 0 0, .slice none 0 0] 65)); simpa using this)
  have B3 : Hid (Blk ((((w.alloc (.cells #[.int .i64 n, .int .i64 v, .int .i64 lo, .slice A m cA, .slice B k cB] 65)).alloc (.cells #[.int .i64 mf, .string mb, .string ms] 48)).alloc (.cells #[.int .i64 3, .int .i64 vw, .int .i64 seq, .int .i64 0, .int .i64 0, .string d, .string ⟨#[]⟩, .slice none 0 0] 46)).alloc (.cells #[.int .i64 0, .int .i64 0, .int .i64 0, .slice none 0 0, .slice none 0 0] 65)) (w.heap.size + 1 + 1 + 1) 65 #[.int .i64 0, .int .i64 0, .int .i64 0, .slice none 0 0, .slice none 0 0]) := Lib.hid (by have := (Blk.new (((w.alloc (.cells #[.int .i64 n, .int .i64 v, .int .i64 lo, .slice A m cA, .slice B k cB] 65)).alloc (.cells #[.int .i64 mf, .string mb, .string ms] 48)).alloc (.cells #[.int .i64 3, .int .i64 vw, .int .i64 seq, .int .i64 0, .int .i64 0, .string d, .string ⟨#[]⟩, .slice none 0 0] 46)) 65 #[.int .i64 0, .int .i64 0, .int .i64 0, .slice none 0 0, .slice none 0 0]); simpa using this)
  go_enter Try.func46, Try.ntmps46
  go_upto_region 1 with (fail)
  obtain ⟨g1, hg1⟩ : ∃ g1, w.heap.size = g1 := ⟨_, rfl⟩
  have HG := Lib.hid hg1
  rw [hg1] at B0 B1 B2 B3 ⊢
  clear hg1
  generalize World.alloc (World.alloc (World.alloc (World.alloc w _) _) _) _ = wy at hb0 B0 B1 B2 B3 ⊢
  have HX : Hid (∀ wx : World, Below wy.heap.size wy wx → (wx.cell? ⟨g1, 0, none⟩ = some (.int .i64 n) ∧ wx.cell? ⟨g1, 1, none⟩ = some (.int .i64 v) ∧ wx.cell? ⟨g1, 2, none⟩ = some (.int .i64 lo) ∧ wx.cell? ⟨g1, 3, none⟩ = some (.slice A m cA) ∧ wx.cell? ⟨g1, 4, none⟩ = some (.slice B k cB)) ∧ (wx.cell? ⟨g1 + 1, 0, none⟩ = some (.int .i64 mf) ∧ wx.cell? ⟨g1 + 1, 1, none⟩ = some (.string mb) ∧ wx.cell? ⟨g1 + 1, 2, none⟩ = some (.string ms)) ∧ (wx.cell? ⟨g1 + 1 + 1, 0, none⟩ = some (.int .i64 3) ∧ wx.cell? ⟨g1 + 1 + 1, 1, none⟩ = some (.int .i64 vw) ∧ wx.cell? ⟨g1 + 1 + 1, 2, none⟩ = some (.int .i64 seq) ∧ wx.cell? ⟨g1 + 1 + 1, 3, none⟩ = some (.int .i64 0) ∧ wx.cell? ⟨g1 + 1 + 1, 4, none⟩ = some (.int .i64 0) ∧ wx.cell? ⟨g1 + 1 + 1, 5, none⟩ = some (.string d) ∧ wx.cell? ⟨g1 + 1 + 1, 6, none⟩ = some (.string ⟨#[]⟩) ∧ wx.cell? ⟨g1 + 1 + 1, 7, none⟩ = some (.slice none 0 0)) ∧ (wx.cell? ⟨g1 + 1 + 1 + 1, 0, none⟩ = some (.int .i64 0) ∧ wx.cell? ⟨g1 + 1 + 1 + 1, 1, none⟩ = some (.int .i64 0) ∧ wx.cell? ⟨g1 + 1 + 1 + 1, 2, none⟩ = some (.int .i64 0) ∧ wx.cell? ⟨g1 + 1 + 1 + 1, 3, none⟩ = some (.slice none 0 0) ∧ wx.cell? ⟨g1 + 1 + 1 + 1, 4, none⟩ = some (.slice none 0 0)) ∧ (wx.frozen? ⟨g1 + 1 + 1 + 1, 0, none⟩ = false ∧ wx.frozen? ⟨g1 + 1 + 1 + 1, 1, none⟩ = false ∧ wx.frozen? ⟨g1 + 1 + 1 + 1, 2, none⟩ = false ∧ wx.frozen? ⟨g1 + 1 + 1 + 1, 3, none⟩ = false ∧ wx.frozen? ⟨g1 + 1 + 1 + 1, 4, none⟩ = false) ∧ (wx.frozen? ⟨g1, 0, none⟩ = false ∧ wx.frozen? ⟨g1, 1, none⟩ = false ∧ wx.frozen? ⟨g1, 2, none⟩ = false ∧ wx.frozen? ⟨g1, 3, none⟩ = false ∧ wx.frozen? ⟨g1, 4, none⟩ = false)) := Lib.hid fun wx hb => by
    have b0 := B0.out.below hb B0.out.lt
    have b1 := B1.out.below hb B1.out.lt
    have b2 := B2.out.below hb B2.out.lt
    have b3 := B3.out.below hb B3.out.lt
    exact ⟨⟨b0.cell 0, b0.cell 1, b0.cell 2, b0.cell 3, b0.cell 4⟩, ⟨b1.cell 0, b1.cell 1, b1.cell 2⟩, ⟨b2.cell 0, b2.cell 1, b2.cell 2, b2.cell 3, b2.cell 4, b2.cell 5, b2.cell 6, b2.cell 7⟩, ⟨b3.cell 0, b3.cell 1, b3.cell 2, b3.cell 3, b3.cell 4⟩, ⟨b3.frozen 0, b3.frozen 1, b3.frozen 2, b3.frozen 3, b3.frozen 4⟩, ⟨b0.frozen 0, b0.frozen 1, b0.frozen 2, b0.frozen 3, b0.frozen 4⟩⟩
  have HGR : Hid (g1 + 1 + 1 + 1 < wy.heap.size) := Lib.hid B3.out.lt
  obtain ⟨⟨c0, c1, c2, c3, c4⟩, ⟨s0, s1, s2⟩, ⟨t0, t1, t2, t3, t4, t5, t6, t7⟩, ⟨z0, z1, z2, z3, z4⟩, ⟨f0, f1, f2, f3, f4⟩, ⟨e0, e1, e2, e3, e4⟩⟩ := HX.out wy (Below.refl _ _)
  have HB2 : Hid (Below wy.heap.size wy wy) := Lib.hid (Below.refl _ _)
  by_cases a1 : mf < 0
  · have E : Hid (y.vote ⟨mf, mb, ms⟩ 3 vw seq d = (y, 1)) := Lib.hid (by rw [HE.out, if_pos (.inl a1)])
    clear HE HPr HWi HTk
    go_wp2
    (try simp only [Exit.inBlock, Exit.then])
    refine bodyPost_ret (by simp [results, Try.results46, asAddr, go_sem, z0, z1, z2, z3, z4]; rfl) rfl ?_
    have hbz := below_five (B := w.heap.size) (g := g1 + 1 + 1 + 1) (below_next hb0.out (Below.refl _ _)) (by rw [HG.out]; omega) (.int .i64 n) (.int .i64 v) (.int .i64 lo) (.slice A m cA) (.slice B k cB)
    exact rtold E.out hm.out hkk.out hv.out hl.out HL0.out hbz (Lasts.same _ _ _)
  by_cases a2 : n ≤ mf
  · have E : Hid (y.vote ⟨mf, mb, ms⟩ 3 vw seq d = (y, 1)) := Lib.hid (by rw [HE.out, if_pos (.inr a2)])
    have a1B : decide (mf < 0) = false := by simpa using a1
    clear HE HPr HWi HTk
    go_wp2
    (try simp only [Exit.inBlock, Exit.then])
    refine bodyPost_ret (by simp [results, Try.results46, asAddr, go_sem, z0, z1, z2, z3, z4]; rfl) rfl ?_
    have hbz := below_five (B := w.heap.size) (g := g1 + 1 + 1 + 1) (below_next hb0.out (Below.refl _ _)) (by rw [HG.out]; omega) (.int .i64 n) (.int .i64 v) (.int .i64 lo) (.slice A m cA) (.slice B k cB)
    exact rtold E.out hm.out hkk.out hv.out hl.out HL0.out hbz (Lasts.same _ _ _)
  have a1B : decide (mf < 0) = false := by simpa using a1
  have a2B : decide (n ≤ mf) = false := by simpa using a2
  have HE2 := Lib.hid (HE.out.trans (if_neg (by omega)))
  clear HE
  by_cases hvv : vw = v
  · have hvB : (vw != v) = false := by simpa using hvv
    have HVV := Lib.hid hvv
    clear hvv
    by_cases hw : lo < seq ∧ seq ≤ lo + 8
    · have HWx : Hid (∀ w, _) := HWi
      rw [decide_eq_true hw] at HWx
      have HE3 := Lib.hid (HE2.out.trans (if_neg (by rintro (h | h); exact h HVV.out; exact h hw)))
      clear HE2 hw HWi
      have HPx : Hid (∀ w, _) := HPr
      cases hpo : y.voted 3 seq mf with
      | none =>
        have E : Hid (y.vote ⟨mf, mb, ms⟩ 3 vw seq d = (yt, 0)) := Lib.hid (by rw [HE3.out, hpo])
        rw [hpo] at HPx
        simp only [Option.getD_none, Option.isSome_none] at HPx
        generalize It.none = p at HPx
        clear hpo HE3 HPr
        go_upto_region 6 with (first
          | (go_at_call 51; (with_reducible refine (HWx.out _).mono ?_); rintro e w2 ⟨rfl, hh⟩; have HB2 := Lib.hid hh; clear hh c0 c1 c2 c3 c4 s0 s1 s2 t0 t1 t2 t3 t4 t5 t6 t7 z0 z1 z2 z3 z4 f0 f1 f2 f3 f4 e0 e1 e2 e3 e4; obtain ⟨⟨c0, c1, c2, c3, c4⟩, ⟨s0, s1, s2⟩, ⟨t0, t1, t2, t3, t4, t5, t6, t7⟩, ⟨z0, z1, z2, z3, z4⟩, ⟨f0, f1, f2, f3, f4⟩, ⟨e0, e1, e2, e3, e4⟩⟩ := HX.out w2 HB2.out)
          | (go_at_call 54; (with_reducible refine (HPx.out _ (below_next hb0.out HB2.out)).mono ?_); rintro e w3 ⟨rfl, hh⟩; have HB3 := Lib.hid (below_next HB2.out hh); clear hh c0 c1 c2 c3 c4 s0 s1 s2 t0 t1 t2 t3 t4 t5 t6 t7 z0 z1 z2 z3 z4 f0 f1 f2 f3 f4 e0 e1 e2 e3 e4))
        have B4 : Hid (Blk (w3.alloc (.cells #[.int .i64 p.kind, .int .i64 p.frm, .int .i64 p.view, .int .i64 p.seq, .string p.digest, .string p.batch, .int .i64 p.m.frm, .string p.m.body, .string p.m.sig] 106)) w3.heap.size 106 #[.int .i64 p.kind, .int .i64 p.frm, .int .i64 p.view, .int .i64 p.seq, .string p.digest, .string p.batch, .int .i64 p.m.frm, .string p.m.body, .string p.m.sig]) := Lib.hid (Blk.new _ _ _)
        have HB4 : Hid (Below wy.heap.size wy (w3.alloc (.cells #[.int .i64 p.kind, .int .i64 p.frm, .int .i64 p.view, .int .i64 p.seq, .string p.digest, .string p.batch, .int .i64 p.m.frm, .string p.m.body, .string p.m.sig] 106))) := Lib.hid (HB3.out.alloc HB3.out.size _)
        obtain ⟨gp, hgp⟩ : ∃ gp, w3.heap.size = gp := ⟨_, rfl⟩
        rw [hgp] at B4 ⊢
        clear hgp HB3
        generalize World.alloc w3 _ = w4 at B4 HB4 ⊢
        obtain ⟨⟨c0, c1, c2, c3, c4⟩, ⟨s0, s1, s2⟩, ⟨t0, t1, t2, t3, t4, t5, t6, t7⟩, ⟨z0, z1, z2, z3, z4⟩, ⟨f0, f1, f2, f3, f4⟩, ⟨e0, e1, e2, e3, e4⟩⟩ := HX.out w4 HB4.out
        have HTx := Lib.hid (HTk.out w4 (below_next hb0.out HB4.out))
        have HGR : Hid (g1 + 1 + 1 + 1 < w4.heap.size) := Lib.hid (Nat.lt_of_lt_of_le HGR.out HB4.out.size)
        clear HTk HPx
        go_wp2_with (first
          | (go_at_call 53; go_must ((with_reducible refine (HTx.out).mono ?_); rintro e wt ⟨A', c', B', cB', L1, rfl, hL1, hbt, hla⟩; have HL1 := Lib.hid hL1; have HBT := Lib.hid (below_next HB4.out hbt); have HLa := Lib.hid hla; clear hL1 hbt hla c0 c1 c2 c3 c4 s0 s1 s2 t0 t1 t2 t3 t4 t5 t6 t7 z0 z1 z2 z3 z4 f0 f1 f2 f3 f4 e0 e1 e2 e3 e4; obtain ⟨⟨c0, c1, c2, c3, c4⟩, ⟨s0, s1, s2⟩, ⟨t0, t1, t2, t3, t4, t5, t6, t7⟩, ⟨z0, z1, z2, z3, z4⟩, ⟨f0, f1, f2, f3, f4⟩, ⟨e0, e1, e2, e3, e4⟩⟩ := HX.out wt HBT.out)))
        (try simp only [Exit.inBlock, Exit.then])
        refine bodyPost_ret (by simp [results, Try.results46, asAddr, go_sem, z0, z1, z2, z3, z4]; rfl) rfl ?_
        exact rtold E.out rfl rfl rfl rfl HL1.out (below_five (B := w.heap.size) (g := g1 + 1 + 1 + 1) (below_next hb0.out HBT.out) (by rw [HG.out]; omega) _ _ _ _ _) (HLa.out.call (by rw [HG.out]; omega) HGR.out _ _ _ _ _)
      | some p =>
        have HE4 : Hid (y.vote ⟨mf, mb, ms⟩ 3 vw seq d = if p.digest = d then ((y, 101) : Rl × Int) else (y, 102)) := Lib.hid (by rw [HE3.out, hpo])
        rw [hpo] at HPx
        simp only [Option.getD_some, Option.isSome_some] at HPx
        clear hpo HE3 HPr HTk
        go_upto_region 6 with (first
          | (go_at_call 51; (with_reducible refine (HWx.out _).mono ?_); rintro e w2 ⟨rfl, hh⟩; have HB2 := Lib.hid hh; clear hh c0 c1 c2 c3 c4 s0 s1 s2 t0 t1 t2 t3 t4 t5 t6 t7 z0 z1 z2 z3 z4 f0 f1 f2 f3 f4 e0 e1 e2 e3 e4; obtain ⟨⟨c0, c1, c2, c3, c4⟩, ⟨s0, s1, s2⟩, ⟨t0, t1, t2, t3, t4, t5, t6, t7⟩, ⟨z0, z1, z2, z3, z4⟩, ⟨f0, f1, f2, f3, f4⟩, ⟨e0, e1, e2, e3, e4⟩⟩ := HX.out w2 HB2.out)
          | (go_at_call 54; (with_reducible refine (HPx.out _ (below_next hb0.out HB2.out)).mono ?_); rintro e w3 ⟨rfl, hh⟩; have HB3 := Lib.hid (below_next HB2.out hh); clear hh c0 c1 c2 c3 c4 s0 s1 s2 t0 t1 t2 t3 t4 t5 t6 t7 z0 z1 z2 z3 z4 f0 f1 f2 f3 f4 e0 e1 e2 e3 e4))
        have B4 : Hid (Blk (w3.alloc (.cells #[.int .i64 p.kind, .int .i64 p.frm, .int .i64 p.view, .int .i64 p.seq, .string p.digest, .string p.batch, .int .i64 p.m.frm, .string p.m.body, .string p.m.sig] 106)) w3.heap.size 106 #[.int .i64 p.kind, .int .i64 p.frm, .int .i64 p.view, .int .i64 p.seq, .string p.digest, .string p.batch, .int .i64 p.m.frm, .string p.m.body, .string p.m.sig]) := Lib.hid (Blk.new _ _ _)
        have HB4 : Hid (Below wy.heap.size wy (w3.alloc (.cells #[.int .i64 p.kind, .int .i64 p.frm, .int .i64 p.view, .int .i64 p.seq, .string p.digest, .string p.batch, .int .i64 p.m.frm, .string p.m.body, .string p.m.sig] 106))) := Lib.hid (HB3.out.alloc HB3.out.size _)
        obtain ⟨gp, hgp⟩ : ∃ gp, w3.heap.size = gp := ⟨_, rfl⟩
        rw [hgp] at B4 ⊢
        clear hgp HB3
        generalize World.alloc w3 _ = w4 at B4 HB4 ⊢
        obtain ⟨⟨c0, c1, c2, c3, c4⟩, ⟨s0, s1, s2⟩, ⟨t0, t1, t2, t3, t4, t5, t6, t7⟩, ⟨z0, z1, z2, z3, z4⟩, ⟨f0, f1, f2, f3, f4⟩, ⟨e0, e1, e2, e3, e4⟩⟩ := HX.out w4 HB4.out
        have p4 : w4.cell? ⟨gp, 4, none⟩ = some (.string p.digest) := B4.out.cell 4
        by_cases h1 : p.digest = d
        · have E : Hid (y.vote ⟨mf, mb, ms⟩ 3 vw seq d = (y, 101)) := Lib.hid (by rw [HE4.out, if_pos h1])
          rw [h1] at p4
          go_wp2
          (try simp only [Exit.inBlock, Exit.then])
          refine bodyPost_ret (by simp [results, Try.results46, asAddr, go_sem, z0, z1, z2, z3, z4]; rfl) rfl ?_
          have hbz := below_five (B := w.heap.size) (g := g1 + 1 + 1 + 1) (below_next hb0.out HB4.out) (by rw [HG.out]; omega) (.int .i64 n) (.int .i64 v) (.int .i64 lo) (.slice A m cA) (.slice B k cB)
          exact rtold E.out hm.out hkk.out hv.out hl.out HL0.out hbz (Lasts.same _ _ _)
        · have E : Hid (y.vote ⟨mf, mb, ms⟩ 3 vw seq d = (y, 102)) := Lib.hid (by rw [HE4.out, if_neg h1])
          have k2 := text_ne h1
          have k3 := text_apart h1
          have k4 := text_differ h1
          go_wp2
          (try simp only [Exit.inBlock, Exit.then])
          refine bodyPost_ret (by simp [results, Try.results46, asAddr, go_sem, z0, z1, z2, z3, z4]; rfl) rfl ?_
          have hbz := below_five (B := w.heap.size) (g := g1 + 1 + 1 + 1) (below_next hb0.out HB4.out) (by rw [HG.out]; omega) (.int .i64 n) (.int .i64 v) (.int .i64 lo) (.slice A m cA) (.slice B k cB)
          exact rtold E.out hm.out hkk.out hv.out hl.out HL0.out hbz (Lasts.same _ _ _)
    · have HWx : Hid (∀ w, _) := HWi
      rw [decide_eq_false hw] at HWx
      have E : Hid (y.vote ⟨mf, mb, ms⟩ 3 vw seq d = (y, 100)) := Lib.hid (by rw [HE2.out, if_pos (.inr hw)])
      clear HE2 hw HWi HPr HTk
      go_wp2_with (first
        | (go_at_call 51; (with_reducible refine (HWx.out _).mono ?_); rintro e w2 ⟨rfl, hh⟩; have HB2 := Lib.hid hh; clear hh c0 c1 c2 c3 c4 s0 s1 s2 t0 t1 t2 t3 t4 t5 t6 t7 z0 z1 z2 z3 z4 f0 f1 f2 f3 f4 e0 e1 e2 e3 e4; obtain ⟨⟨c0, c1, c2, c3, c4⟩, ⟨s0, s1, s2⟩, ⟨t0, t1, t2, t3, t4, t5, t6, t7⟩, ⟨z0, z1, z2, z3, z4⟩, ⟨f0, f1, f2, f3, f4⟩, ⟨e0, e1, e2, e3, e4⟩⟩ := HX.out w2 HB2.out))
      (try simp only [Exit.inBlock, Exit.then])
      refine bodyPost_ret (by simp [results, Try.results46, asAddr, go_sem, z0, z1, z2, z3, z4]; rfl) rfl ?_
      have hbz := below_five (B := w.heap.size) (g := g1 + 1 + 1 + 1) (below_next hb0.out HB2.out) (by rw [HG.out]; omega) (.int .i64 n) (.int .i64 v) (.int .i64 lo) (.slice A m cA) (.slice B k cB)
      exact rtold E.out hm.out hkk.out hv.out hl.out HL0.out hbz (Lasts.same _ _ _)
  · have E : Hid (y.vote ⟨mf, mb, ms⟩ 3 vw seq d = (y, 100)) := Lib.hid (by rw [HE2.out, if_pos (.inl hvv)])
    have hvB : (vw != v) = true := by simpa using hvv
    clear HTk HPr HWi HE2
    go_wp2
    (try simp only [Exit.inBlock, Exit.then])
    refine bodyPost_ret (by simp [results, Try.results46, asAddr, go_sem, z0, z1, z2, z3, z4]; rfl) rfl ?_
    have hbz := below_five (B := w.heap.size) (g := g1 + 1 + 1 + 1) (below_next hb0.out (Below.refl _ _)) (by rw [HG.out]; omega) (.int .i64 n) (.int .i64 v) (.int .i64 lo) (.slice A m cA) (.slice B k cB)
    exact rtold E.out hm.out hkk.out hv.out hl.out HL0.out hbz (Lasts.same _ _ _)
set_option maxHeartbeats 8000000 in
set_option maxRecDepth 20000 in
theorem rvote4_calls (w : World) (A B : Option Addr) (cA cB : Nat) (y : Rl) (L0 : List (Kb × Value)) (hL0 : L0.map Prod.fst = y.kept) (h : IRow w A y.L) (hk : KVRow w B L0) (hlo : 0 ≤ y.low ∧ y.low ≤ 1073741824) (hlen : y.L.length ≤ 900) (hkl : y.kept.length ≤ 900) (hn : y.n = 4 ∨ y.n = 7 ∨ y.n = 10 ∨ y.n = 13) (mf : Int) (mb ms : ByteArray) (vw seq : Int) (d : ByteArray) :
    Calls Try.prog 46 #[.agg #[.int .i64 y.n, .int .i64 y.view, .int .i64 y.low, .slice A y.L.length cA, .slice B y.kept.length cB], .agg #[.int .i64 mf, .string mb, .string ms], .agg #[.int .i64 4, .int .i64 vw, .int .i64 seq, .int .i64 0, .int .i64 0, .string d, .string ⟨#[]⟩, .slice none 0 0]] w (RTold w A B y.L L0 y.n (y.vote ⟨mf, mb, ms⟩ 4 vw seq d)) := by
  obtain ⟨yt, hyt⟩ : ∃ yt, Hid (y.taken ⟨4, mf, vw, seq, d, noText, ⟨mf, mb, ms⟩⟩ = yt) := ⟨_, Lib.hid rfl⟩
  have HTk : Hid (∀ wx, Below w.heap.size w wx → Calls Try.prog 53 #[.agg #[.int .i64 y.n, .int .i64 y.view, .int .i64 y.low, .slice A y.L.length cA, .slice B y.kept.length cB], .agg #[.int .i64 4, .int .i64 mf, .int .i64 vw, .int .i64 seq, .string d, .string ⟨#[]⟩, .int .i64 mf, .string mb, .string ms]] wx (TakenTo wx A B y.L L0 y.n yt)) := Lib.hid fun wx hb => by
    have := taken_calls wx A B cA cB y L0 (h.below hb) (hk.below hb) hL0 hlo hlen hkl hn ⟨4, mf, vw, seq, d, noText, ⟨mf, mb, ms⟩⟩
    rw [hyt.out] at this
    exact this
  have HPr : Hid (∀ wx, Below w.heap.size w wx → Calls Try.prog 54 #[.agg #[.int .i64 y.n, .int .i64 y.view, .int .i64 y.low, .slice A y.L.length cA, .slice B y.kept.length cB], .int .i64 4, .int .i64 seq, .int .i64 mf] wx fun e w' => e = .returned (.tuple #[.agg #[.int .i64 ((y.voted 4 seq mf).getD It.none).kind, .int .i64 ((y.voted 4 seq mf).getD It.none).frm, .int .i64 ((y.voted 4 seq mf).getD It.none).view, .int .i64 ((y.voted 4 seq mf).getD It.none).seq, .string ((y.voted 4 seq mf).getD It.none).digest, .string ((y.voted 4 seq mf).getD It.none).batch, .int .i64 ((y.voted 4 seq mf).getD It.none).m.frm, .string ((y.voted 4 seq mf).getD It.none).m.body, .string ((y.voted 4 seq mf).getD It.none).m.sig], .bool (y.voted 4 seq mf).isSome]) ∧ Below wx.heap.size wx w') := Lib.hid fun wx hb => rvoted_calls wx A B cA y.kept.length cB y (h.below hb) hlo (by omega) 4 seq mf
  have HWi : Hid (∀ wx, Calls Try.prog 51 #[.agg #[.int .i64 y.n, .int .i64 y.view, .int .i64 y.low, .slice A y.L.length cA, .slice B y.kept.length cB], .int .i64 seq] wx fun e w' => e = .returned (.bool (decide (y.low < seq ∧ seq ≤ y.low + 8))) ∧ Below wx.heap.size wx w') := Lib.hid fun wx => rwithin_calls wx y.n y.view y.low A B y.L.length cA y.kept.length cB seq hlo.1 hlo.2
  have HE : Hid (y.vote ⟨mf, mb, ms⟩ 4 vw seq d = if mf < 0 ∨ y.n ≤ mf then ((y, 1) : Rl × Int) else if vw ≠ y.view ∨ ¬ (y.low < seq ∧ seq ≤ y.low + 8) then (y, 100) else match y.voted 4 seq mf with | some p => if p.digest = d then (y, 101) else (y, 102) | Option.none => (yt, 0)) := Lib.hid (by
    unfold Rl.vote Rl.within
    rw [hyt.out]
    rcases y.voted 4 seq mf with _ | p <;> simp)
  have HL0 := Lib.hid hL0
  obtain ⟨m, hm⟩ : ∃ m, Hid (y.L.length = m) := ⟨_, Lib.hid rfl⟩
  obtain ⟨k, hkk⟩ : ∃ k, Hid (y.kept.length = k) := ⟨_, Lib.hid rfl⟩
  obtain ⟨n, hnn⟩ : ∃ n, Hid (y.n = n) := ⟨_, Lib.hid rfl⟩
  obtain ⟨v, hv⟩ : ∃ v, Hid (y.view = v) := ⟨_, Lib.hid rfl⟩
  obtain ⟨lo, hl⟩ : ∃ lo, Hid (y.low = lo) := ⟨_, Lib.hid rfl⟩
  (try rw [hnn.out] at HTk)
  (try rw [hv.out] at HTk)
  (try rw [hl.out] at HTk)
  (try rw [hm.out] at HTk)
  (try rw [hkk.out] at HTk)
  (try rw [hnn.out] at HE)
  (try rw [hv.out] at HE)
  (try rw [hl.out] at HE)
  (try rw [hm.out] at HE)
  (try rw [hkk.out] at HE)
  (try rw [hnn.out] at HPr)
  (try rw [hv.out] at HPr)
  (try rw [hl.out] at HPr)
  (try rw [hm.out] at HPr)
  (try rw [hkk.out] at HPr)
  (try rw [hnn.out] at HWi)
  (try rw [hv.out] at HWi)
  (try rw [hl.out] at HWi)
  (try rw [hm.out] at HWi)
  (try rw [hkk.out] at HWi)
  rw [hm.out, hkk.out, hnn.out, hv.out, hl.out]
  clear h hk hlo hlen hkl hn hL0
  have hb0 : Hid (Below w.heap.size w ((((w.alloc (.cells #[.int .i64 n, .int .i64 v, .int .i64 lo, .slice A m cA, .slice B k cB] 65)).alloc (.cells #[.int .i64 mf, .string mb, .string ms] 48)).alloc (.cells #[.int .i64 4, .int .i64 vw, .int .i64 seq, .int .i64 0, .int .i64 0, .string d, .string ⟨#[]⟩, .slice none 0 0] 46)).alloc (.cells #[.int .i64 0, .int .i64 0, .int .i64 0, .slice none 0 0, .slice none 0 0] 65))) := Lib.hid (((((Below.refl _ _).alloc (Nat.le_refl _) _).alloc (by simp) _).alloc (by simp; omega) _).alloc (by simp; omega) _)
  have B0 : Hid (Blk ((((w.alloc (.cells #[.int .i64 n, .int .i64 v, .int .i64 lo, .slice A m cA, .slice B k cB] 65)).alloc (.cells #[.int .i64 mf, .string mb, .string ms] 48)).alloc (.cells #[.int .i64 4, .int .i64 vw, .int .i64 seq, .int .i64 0, .int .i64 0, .string d, .string ⟨#[]⟩, .slice none 0 0] 46)).alloc (.cells #[.int .i64 0, .int .i64 0, .int .i64 0, .slice none 0 0, .slice none 0 0] 65)) w.heap.size 65 #[.int .i64 n, .int .i64 v, .int .i64 lo, .slice A m cA, .slice B k cB]) := Lib.hid ((((Blk.new w 65 #[.int .i64 n, .int .i64 v, .int .i64 lo, .slice A m cA, .slice B k cB]).alloc (.cells #[.int .i64 mf, .string mb, .string ms] 48)).alloc (.cells #[.int .i64 4, .int .i64 vw, .int .i64 seq, .int .i64 0, .int .i64 0, .string d, .string ⟨#[]⟩, .slice none 0 0] 46)).alloc (.cells #[.int .i64 0, .int .i64 0, .int .i64 0, .slice none 0 0, .slice none 0 0] 65))
  have B1 : Hid (Blk ((((w.alloc (.cells #[.int .i64 n, .int .i64 v, .int .i64 lo, .slice A m cA, .slice B k cB] 65)).alloc (.cells #[.int .i64 mf, .string mb, .string ms] 48)).alloc (.cells #[.int .i64 4, .int .i64 vw, .int .i64 seq, .int .i64 0, .int .i64 0, .string d, .string ⟨#[]⟩, .slice none 0 0] 46)).alloc (.cells #[.int .i64 0, .int .i64 0, .int .i64 0, .slice none 0 0, .slice none 0 0] 65)) (w.heap.size + 1) 48 #[.int .i64 mf, .string mb, .string ms]) := Lib.hid (by have := (((Blk.new (w.alloc (.cells #[.int .i64 n, .int .i64 v, .int .i64 lo, .slice A m cA, .slice B k cB] 65)) 48 #[.int .i64 mf, .string mb, .string ms]).alloc (.cells #[.int .i64 4, .int .i64 vw, .int .i64 seq, .int .i64 0, .int .i64 0, .string d, .string ⟨#[]⟩, .slice none 0 0] 46)).alloc (.cells #[.int .i64 0, .int .i64 0, .int .i64 0, .slice none 0 0, .slice none 0 0] 65)); simpa using this)
  have B2 : Hid (Blk ((((w.alloc (.cells #[.int .i64 n, .int .i64 v, .int .i64 lo, .slice A m cA, .slice B k cB] 65)).alloc (.cells #[.int .i64 mf, .string mb, .string ms] 48)).alloc (.cells #[.int .i64 4, .int .i64 vw, .int .i64 seq, .int .i64 0, .int .i64 0, .string d, .string ⟨#[]⟩, .slice none 0 0] 46)).alloc (.cells #[.int .i64 0, .int .i64 0, .int .i64 0, .slice none 0 0, .slice none 0 0] 65)) (w.heap.size + 1 + 1) 46 #[.int .i64 4, .int .i64 vw, .int .i64 seq, .int .i64 0, .int .i64 0, .string d, .string ⟨#[]⟩, .slice none 0 0]) := Lib.hid (by have := ((Blk.new ((w.alloc (.cells #[.int .i64 n, .int .i64 v, .int .i64 lo, .slice A m cA, .slice B k cB] 65)).alloc (.cells #[.int .i64 mf, .string mb, .string ms] 48)) 46 #[.int .i64 4, .int .i64 vw, .int .i64 seq, .int .i64 0, .int .i64 0, .string d, .string ⟨#[]⟩, .slice none 0 0]).alloc (.cells #[.int .i64 0, .int .i64 0, .int .i64 0, .slice none 0 0, .slice none 0 0] 65)); simpa using this)
  have B3 : Hid (Blk ((((w.alloc (.cells #[.int .i64 n, .int .i64 v, .int .i64 lo, .slice A m cA, .slice B k cB] 65)).alloc (.cells #[.int .i64 mf, .string mb, .string ms] 48)).alloc (.cells #[.int .i64 4, .int .i64 vw, .int .i64 seq, .int .i64 0, .int .i64 0, .string d, .string ⟨#[]⟩, .slice none 0 0] 46)).alloc (.cells #[.int .i64 0, .int .i64 0, .int .i64 0, .slice none 0 0, .slice none 0 0] 65)) (w.heap.size + 1 + 1 + 1) 65 #[.int .i64 0, .int .i64 0, .int .i64 0, .slice none 0 0, .slice none 0 0]) := Lib.hid (by have := (Blk.new (((w.alloc (.cells #[.int .i64 n, .int .i64 v, .int .i64 lo, .slice A m cA, .slice B k cB] 65)).alloc (.cells #[.int .i64 mf, .string mb, .string ms] 48)).alloc (.cells #[.int .i64 4, .int .i64 vw, .int .i64 seq, .int .i64 0, .int .i64 0, .string d, .string ⟨#[]⟩, .slice none 0 0] 46)) 65 #[.int .i64 0, .int .i64 0, .int .i64 0, .slice none 0 0, .slice none 0 0]); simpa using this)
  go_enter Try.func46, Try.ntmps46
  go_upto_region 1 with (fail)
  obtain ⟨g1, hg1⟩ : ∃ g1, w.heap.size = g1 := ⟨_, rfl⟩
  have HG := Lib.hid hg1
  rw [hg1] at B0 B1 B2 B3 ⊢
  clear hg1
  generalize World.alloc (World.alloc (World.alloc (World.alloc w _) _) _) _ = wy at hb0 B0 B1 B2 B3 ⊢
  have HX : Hid (∀ wx : World, Below wy.heap.size wy wx → (wx.cell? ⟨g1, 0, none⟩ = some (.int .i64 n) ∧ wx.cell? ⟨g1, 1, none⟩ = some (.int .i64 v) ∧ wx.cell? ⟨g1, 2, none⟩ = some (.int .i64 lo) ∧ wx.cell? ⟨g1, 3, none⟩ = some (.slice A m cA) ∧ wx.cell? ⟨g1, 4, none⟩ = some (.slice B k cB)) ∧ (wx.cell? ⟨g1 + 1, 0, none⟩ = some (.int .i64 mf) ∧ wx.cell? ⟨g1 + 1, 1, none⟩ = some (.string mb) ∧ wx.cell? ⟨g1 + 1, 2, none⟩ = some (.string ms)) ∧ (wx.cell? ⟨g1 + 1 + 1, 0, none⟩ = some (.int .i64 4) ∧ wx.cell? ⟨g1 + 1 + 1, 1, none⟩ = some (.int .i64 vw) ∧ wx.cell? ⟨g1 + 1 + 1, 2, none⟩ = some (.int .i64 seq) ∧ wx.cell? ⟨g1 + 1 + 1, 3, none⟩ = some (.int .i64 0) ∧ wx.cell? ⟨g1 + 1 + 1, 4, none⟩ = some (.int .i64 0) ∧ wx.cell? ⟨g1 + 1 + 1, 5, none⟩ = some (.string d) ∧ wx.cell? ⟨g1 + 1 + 1, 6, none⟩ = some (.string ⟨#[]⟩) ∧ wx.cell? ⟨g1 + 1 + 1, 7, none⟩ = some (.slice none 0 0)) ∧ (wx.cell? ⟨g1 + 1 + 1 + 1, 0, none⟩ = some (.int .i64 0) ∧ wx.cell? ⟨g1 + 1 + 1 + 1, 1, none⟩ = some (.int .i64 0) ∧ wx.cell? ⟨g1 + 1 + 1 + 1, 2, none⟩ = some (.int .i64 0) ∧ wx.cell? ⟨g1 + 1 + 1 + 1, 3, none⟩ = some (.slice none 0 0) ∧ wx.cell? ⟨g1 + 1 + 1 + 1, 4, none⟩ = some (.slice none 0 0)) ∧ (wx.frozen? ⟨g1 + 1 + 1 + 1, 0, none⟩ = false ∧ wx.frozen? ⟨g1 + 1 + 1 + 1, 1, none⟩ = false ∧ wx.frozen? ⟨g1 + 1 + 1 + 1, 2, none⟩ = false ∧ wx.frozen? ⟨g1 + 1 + 1 + 1, 3, none⟩ = false ∧ wx.frozen? ⟨g1 + 1 + 1 + 1, 4, none⟩ = false) ∧ (wx.frozen? ⟨g1, 0, none⟩ = false ∧ wx.frozen? ⟨g1, 1, none⟩ = false ∧ wx.frozen? ⟨g1, 2, none⟩ = false ∧ wx.frozen? ⟨g1, 3, none⟩ = false ∧ wx.frozen? ⟨g1, 4, none⟩ = false)) := Lib.hid fun wx hb => by
    have b0 := B0.out.below hb B0.out.lt
    have b1 := B1.out.below hb B1.out.lt
    have b2 := B2.out.below hb B2.out.lt
    have b3 := B3.out.below hb B3.out.lt
    exact ⟨⟨b0.cell 0, b0.cell 1, b0.cell 2, b0.cell 3, b0.cell 4⟩, ⟨b1.cell 0, b1.cell 1, b1.cell 2⟩, ⟨b2.cell 0, b2.cell 1, b2.cell 2, b2.cell 3, b2.cell 4, b2.cell 5, b2.cell 6, b2.cell 7⟩, ⟨b3.cell 0, b3.cell 1, b3.cell 2, b3.cell 3, b3.cell 4⟩, ⟨b3.frozen 0, b3.frozen 1, b3.frozen 2, b3.frozen 3, b3.frozen 4⟩, ⟨b0.frozen 0, b0.frozen 1, b0.frozen 2, b0.frozen 3, b0.frozen 4⟩⟩
  have HGR : Hid (g1 + 1 + 1 + 1 < wy.heap.size) := Lib.hid B3.out.lt
  obtain ⟨⟨c0, c1, c2, c3, c4⟩, ⟨s0, s1, s2⟩, ⟨t0, t1, t2, t3, t4, t5, t6, t7⟩, ⟨z0, z1, z2, z3, z4⟩, ⟨f0, f1, f2, f3, f4⟩, ⟨e0, e1, e2, e3, e4⟩⟩ := HX.out wy (Below.refl _ _)
  have HB2 : Hid (Below wy.heap.size wy wy) := Lib.hid (Below.refl _ _)
  by_cases a1 : mf < 0
  · have E : Hid (y.vote ⟨mf, mb, ms⟩ 4 vw seq d = (y, 1)) := Lib.hid (by rw [HE.out, if_pos (.inl a1)])
    clear HE HPr HWi HTk
    go_wp2
    (try simp only [Exit.inBlock, Exit.then])
    refine bodyPost_ret (by simp [results, Try.results46, asAddr, go_sem, z0, z1, z2, z3, z4]; rfl) rfl ?_
    have hbz := below_five (B := w.heap.size) (g := g1 + 1 + 1 + 1) (below_next hb0.out (Below.refl _ _)) (by rw [HG.out]; omega) (.int .i64 n) (.int .i64 v) (.int .i64 lo) (.slice A m cA) (.slice B k cB)
    exact rtold E.out hm.out hkk.out hv.out hl.out HL0.out hbz (Lasts.same _ _ _)
  by_cases a2 : n ≤ mf
  · have E : Hid (y.vote ⟨mf, mb, ms⟩ 4 vw seq d = (y, 1)) := Lib.hid (by rw [HE.out, if_pos (.inr a2)])
    have a1B : decide (mf < 0) = false := by simpa using a1
    clear HE HPr HWi HTk
    go_wp2
    (try simp only [Exit.inBlock, Exit.then])
    refine bodyPost_ret (by simp [results, Try.results46, asAddr, go_sem, z0, z1, z2, z3, z4]; rfl) rfl ?_
    have hbz := below_five (B := w.heap.size) (g := g1 + 1 + 1 + 1) (below_next hb0.out (Below.refl _ _)) (by rw [HG.out]; omega) (.int .i64 n) (.int .i64 v) (.int .i64 lo) (.slice A m cA) (.slice B k cB)
    exact rtold E.out hm.out hkk.out hv.out hl.out HL0.out hbz (Lasts.same _ _ _)
  have a1B : decide (mf < 0) = false := by simpa using a1
  have a2B : decide (n ≤ mf) = false := by simpa using a2
  have HE2 := Lib.hid (HE.out.trans (if_neg (by omega)))
  clear HE
  by_cases hvv : vw = v
  · have hvB : (vw != v) = false := by simpa using hvv
    have HVV := Lib.hid hvv
    clear hvv
    by_cases hw : lo < seq ∧ seq ≤ lo + 8
    · have HWx : Hid (∀ w, _) := HWi
      rw [decide_eq_true hw] at HWx
      have HE3 := Lib.hid (HE2.out.trans (if_neg (by rintro (h | h); exact h HVV.out; exact h hw)))
      clear HE2 hw HWi
      have HPx : Hid (∀ w, _) := HPr
      cases hpo : y.voted 4 seq mf with
      | none =>
        have E : Hid (y.vote ⟨mf, mb, ms⟩ 4 vw seq d = (yt, 0)) := Lib.hid (by rw [HE3.out, hpo])
        rw [hpo] at HPx
        simp only [Option.getD_none, Option.isSome_none] at HPx
        generalize It.none = p at HPx
        clear hpo HE3 HPr
        go_upto_region 6 with (first
          | (go_at_call 51; (with_reducible refine (HWx.out _).mono ?_); rintro e w2 ⟨rfl, hh⟩; have HB2 := Lib.hid hh; clear hh c0 c1 c2 c3 c4 s0 s1 s2 t0 t1 t2 t3 t4 t5 t6 t7 z0 z1 z2 z3 z4 f0 f1 f2 f3 f4 e0 e1 e2 e3 e4; obtain ⟨⟨c0, c1, c2, c3, c4⟩, ⟨s0, s1, s2⟩, ⟨t0, t1, t2, t3, t4, t5, t6, t7⟩, ⟨z0, z1, z2, z3, z4⟩, ⟨f0, f1, f2, f3, f4⟩, ⟨e0, e1, e2, e3, e4⟩⟩ := HX.out w2 HB2.out)
          | (go_at_call 54; (with_reducible refine (HPx.out _ (below_next hb0.out HB2.out)).mono ?_); rintro e w3 ⟨rfl, hh⟩; have HB3 := Lib.hid (below_next HB2.out hh); clear hh c0 c1 c2 c3 c4 s0 s1 s2 t0 t1 t2 t3 t4 t5 t6 t7 z0 z1 z2 z3 z4 f0 f1 f2 f3 f4 e0 e1 e2 e3 e4))
        have B4 : Hid (Blk (w3.alloc (.cells #[.int .i64 p.kind, .int .i64 p.frm, .int .i64 p.view, .int .i64 p.seq, .string p.digest, .string p.batch, .int .i64 p.m.frm, .string p.m.body, .string p.m.sig] 106)) w3.heap.size 106 #[.int .i64 p.kind, .int .i64 p.frm, .int .i64 p.view, .int .i64 p.seq, .string p.digest, .string p.batch, .int .i64 p.m.frm, .string p.m.body, .string p.m.sig]) := Lib.hid (Blk.new _ _ _)
        have HB4 : Hid (Below wy.heap.size wy (w3.alloc (.cells #[.int .i64 p.kind, .int .i64 p.frm, .int .i64 p.view, .int .i64 p.seq, .string p.digest, .string p.batch, .int .i64 p.m.frm, .string p.m.body, .string p.m.sig] 106))) := Lib.hid (HB3.out.alloc HB3.out.size _)
        obtain ⟨gp, hgp⟩ : ∃ gp, w3.heap.size = gp := ⟨_, rfl⟩
        rw [hgp] at B4 ⊢
        clear hgp HB3
        generalize World.alloc w3 _ = w4 at B4 HB4 ⊢
        obtain ⟨⟨c0, c1, c2, c3, c4⟩, ⟨s0, s1, s2⟩, ⟨t0, t1, t2, t3, t4, t5, t6, t7⟩, ⟨z0, z1, z2, z3, z4⟩, ⟨f0, f1, f2, f3, f4⟩, ⟨e0, e1, e2, e3, e4⟩⟩ := HX.out w4 HB4.out
        have HTx := Lib.hid (HTk.out w4 (below_next hb0.out HB4.out))
        have HGR : Hid (g1 + 1 + 1 + 1 < w4.heap.size) := Lib.hid (Nat.lt_of_lt_of_le HGR.out HB4.out.size)
        clear HTk HPx
        go_wp2_with (first
          | (go_at_call 53; go_must ((with_reducible refine (HTx.out).mono ?_); rintro e wt ⟨A', c', B', cB', L1, rfl, hL1, hbt, hla⟩; have HL1 := Lib.hid hL1; have HBT := Lib.hid (below_next HB4.out hbt); have HLa := Lib.hid hla; clear hL1 hbt hla c0 c1 c2 c3 c4 s0 s1 s2 t0 t1 t2 t3 t4 t5 t6 t7 z0 z1 z2 z3 z4 f0 f1 f2 f3 f4 e0 e1 e2 e3 e4; obtain ⟨⟨c0, c1, c2, c3, c4⟩, ⟨s0, s1, s2⟩, ⟨t0, t1, t2, t3, t4, t5, t6, t7⟩, ⟨z0, z1, z2, z3, z4⟩, ⟨f0, f1, f2, f3, f4⟩, ⟨e0, e1, e2, e3, e4⟩⟩ := HX.out wt HBT.out)))
        (try simp only [Exit.inBlock, Exit.then])
        refine bodyPost_ret (by simp [results, Try.results46, asAddr, go_sem, z0, z1, z2, z3, z4]; rfl) rfl ?_
        exact rtold E.out rfl rfl rfl rfl HL1.out (below_five (B := w.heap.size) (g := g1 + 1 + 1 + 1) (below_next hb0.out HBT.out) (by rw [HG.out]; omega) _ _ _ _ _) (HLa.out.call (by rw [HG.out]; omega) HGR.out _ _ _ _ _)
      | some p =>
        have HE4 : Hid (y.vote ⟨mf, mb, ms⟩ 4 vw seq d = if p.digest = d then ((y, 101) : Rl × Int) else (y, 102)) := Lib.hid (by rw [HE3.out, hpo])
        rw [hpo] at HPx
        simp only [Option.getD_some, Option.isSome_some] at HPx
        clear hpo HE3 HPr HTk
        go_upto_region 6 with (first
          | (go_at_call 51; (with_reducible refine (HWx.out _).mono ?_); rintro e w2 ⟨rfl, hh⟩; have HB2 := Lib.hid hh; clear hh c0 c1 c2 c3 c4 s0 s1 s2 t0 t1 t2 t3 t4 t5 t6 t7 z0 z1 z2 z3 z4 f0 f1 f2 f3 f4 e0 e1 e2 e3 e4; obtain ⟨⟨c0, c1, c2, c3, c4⟩, ⟨s0, s1, s2⟩, ⟨t0, t1, t2, t3, t4, t5, t6, t7⟩, ⟨z0, z1, z2, z3, z4⟩, ⟨f0, f1, f2, f3, f4⟩, ⟨e0, e1, e2, e3, e4⟩⟩ := HX.out w2 HB2.out)
          | (go_at_call 54; (with_reducible refine (HPx.out _ (below_next hb0.out HB2.out)).mono ?_); rintro e w3 ⟨rfl, hh⟩; have HB3 := Lib.hid (below_next HB2.out hh); clear hh c0 c1 c2 c3 c4 s0 s1 s2 t0 t1 t2 t3 t4 t5 t6 t7 z0 z1 z2 z3 z4 f0 f1 f2 f3 f4 e0 e1 e2 e3 e4))
        have B4 : Hid (Blk (w3.alloc (.cells #[.int .i64 p.kind, .int .i64 p.frm, .int .i64 p.view, .int .i64 p.seq, .string p.digest, .string p.batch, .int .i64 p.m.frm, .string p.m.body, .string p.m.sig] 106)) w3.heap.size 106 #[.int .i64 p.kind, .int .i64 p.frm, .int .i64 p.view, .int .i64 p.seq, .string p.digest, .string p.batch, .int .i64 p.m.frm, .string p.m.body, .string p.m.sig]) := Lib.hid (Blk.new _ _ _)
        have HB4 : Hid (Below wy.heap.size wy (w3.alloc (.cells #[.int .i64 p.kind, .int .i64 p.frm, .int .i64 p.view, .int .i64 p.seq, .string p.digest, .string p.batch, .int .i64 p.m.frm, .string p.m.body, .string p.m.sig] 106))) := Lib.hid (HB3.out.alloc HB3.out.size _)
        obtain ⟨gp, hgp⟩ : ∃ gp, w3.heap.size = gp := ⟨_, rfl⟩
        rw [hgp] at B4 ⊢
        clear hgp HB3
        generalize World.alloc w3 _ = w4 at B4 HB4 ⊢
        obtain ⟨⟨c0, c1, c2, c3, c4⟩, ⟨s0, s1, s2⟩, ⟨t0, t1, t2, t3, t4, t5, t6, t7⟩, ⟨z0, z1, z2, z3, z4⟩, ⟨f0, f1, f2, f3, f4⟩, ⟨e0, e1, e2, e3, e4⟩⟩ := HX.out w4 HB4.out
        have p4 : w4.cell? ⟨gp, 4, none⟩ = some (.string p.digest) := B4.out.cell 4
        by_cases h1 : p.digest = d
        · have E : Hid (y.vote ⟨mf, mb, ms⟩ 4 vw seq d = (y, 101)) := Lib.hid (by rw [HE4.out, if_pos h1])
          rw [h1] at p4
          go_wp2
          (try simp only [Exit.inBlock, Exit.then])
          refine bodyPost_ret (by simp [results, Try.results46, asAddr, go_sem, z0, z1, z2, z3, z4]; rfl) rfl ?_
          have hbz := below_five (B := w.heap.size) (g := g1 + 1 + 1 + 1) (below_next hb0.out HB4.out) (by rw [HG.out]; omega) (.int .i64 n) (.int .i64 v) (.int .i64 lo) (.slice A m cA) (.slice B k cB)
          exact rtold E.out hm.out hkk.out hv.out hl.out HL0.out hbz (Lasts.same _ _ _)
        · have E : Hid (y.vote ⟨mf, mb, ms⟩ 4 vw seq d = (y, 102)) := Lib.hid (by rw [HE4.out, if_neg h1])
          have k2 := text_ne h1
          have k3 := text_apart h1
          have k4 := text_differ h1
          go_wp2
          (try simp only [Exit.inBlock, Exit.then])
          refine bodyPost_ret (by simp [results, Try.results46, asAddr, go_sem, z0, z1, z2, z3, z4]; rfl) rfl ?_
          have hbz := below_five (B := w.heap.size) (g := g1 + 1 + 1 + 1) (below_next hb0.out HB4.out) (by rw [HG.out]; omega) (.int .i64 n) (.int .i64 v) (.int .i64 lo) (.slice A m cA) (.slice B k cB)
          exact rtold E.out hm.out hkk.out hv.out hl.out HL0.out hbz (Lasts.same _ _ _)
    · have HWx : Hid (∀ w, _) := HWi
      rw [decide_eq_false hw] at HWx
      have E : Hid (y.vote ⟨mf, mb, ms⟩ 4 vw seq d = (y, 100)) := Lib.hid (by rw [HE2.out, if_pos (.inr hw)])
      clear HE2 hw HWi HPr HTk
      go_wp2_with (first
        | (go_at_call 51; (with_reducible refine (HWx.out _).mono ?_); rintro e w2 ⟨rfl, hh⟩; have HB2 := Lib.hid hh; clear hh c0 c1 c2 c3 c4 s0 s1 s2 t0 t1 t2 t3 t4 t5 t6 t7 z0 z1 z2 z3 z4 f0 f1 f2 f3 f4 e0 e1 e2 e3 e4; obtain ⟨⟨c0, c1, c2, c3, c4⟩, ⟨s0, s1, s2⟩, ⟨t0, t1, t2, t3, t4, t5, t6, t7⟩, ⟨z0, z1, z2, z3, z4⟩, ⟨f0, f1, f2, f3, f4⟩, ⟨e0, e1, e2, e3, e4⟩⟩ := HX.out w2 HB2.out))
      (try simp only [Exit.inBlock, Exit.then])
      refine bodyPost_ret (by simp [results, Try.results46, asAddr, go_sem, z0, z1, z2, z3, z4]; rfl) rfl ?_
      have hbz := below_five (B := w.heap.size) (g := g1 + 1 + 1 + 1) (below_next hb0.out HB2.out) (by rw [HG.out]; omega) (.int .i64 n) (.int .i64 v) (.int .i64 lo) (.slice A m cA) (.slice B k cB)
      exact rtold E.out hm.out hkk.out hv.out hl.out HL0.out hbz (Lasts.same _ _ _)
  · have E : Hid (y.vote ⟨mf, mb, ms⟩ 4 vw seq d = (y, 100)) := Lib.hid (by rw [HE2.out, if_pos (.inl hvv)])
    have hvB : (vw != v) = true := by simpa using hvv
    clear HTk HPr HWi HE2
    go_wp2
    (try simp only [Exit.inBlock, Exit.then])
    refine bodyPost_ret (by simp [results, Try.results46, asAddr, go_sem, z0, z1, z2, z3, z4]; rfl) rfl ?_
    have hbz := below_five (B := w.heap.size) (g := g1 + 1 + 1 + 1) (below_next hb0.out (Below.refl _ _)) (by rw [HG.out]; omega) (.int .i64 n) (.int .i64 v) (.int .i64 lo) (.slice A m cA) (.slice B k cB)
    exact rtold E.out hm.out hkk.out hv.out hl.out HL0.out hbz (Lasts.same _ _ _)
set_option maxHeartbeats 8000000 in
set_option maxRecDepth 20000 in
theorem rcheck_calls (w : World) (A B : Option Addr) (cA cB : Nat) (y : Rl) (L0 : List (Kb × Value)) (hL0 : L0.map Prod.fst = y.kept) (h : IRow w A y.L) (hk : KVRow w B L0) (hlo : 0 ≤ y.low ∧ y.low ≤ 1073741824) (hlen : y.L.length ≤ 900) (hkl : y.kept.length ≤ 900) (hn : y.n = 4 ∨ y.n = 7 ∨ y.n = 10 ∨ y.n = 13) (mf : Int) (mb ms : ByteArray) (seq : Int) (d : ByteArray) :
    Calls Try.prog 47 #[.agg #[.int .i64 y.n, .int .i64 y.view, .int .i64 y.low, .slice A y.L.length cA, .slice B y.kept.length cB], .agg #[.int .i64 mf, .string mb, .string ms], .agg #[.int .i64 5, .int .i64 0, .int .i64 seq, .int .i64 0, .int .i64 0, .string d, .string ⟨#[]⟩, .slice none 0 0]] w (RTold w A B y.L L0 y.n (y.check ⟨mf, mb, ms⟩ 5 seq d)) := by
  obtain ⟨yt, hyt⟩ : ∃ yt, Hid (y.taken ⟨5, mf, 0, seq, d, noText, ⟨mf, mb, ms⟩⟩ = yt) := ⟨_, Lib.hid rfl⟩
  have HTk : Hid (∀ wx, Below w.heap.size w wx → Calls Try.prog 53 #[.agg #[.int .i64 y.n, .int .i64 y.view, .int .i64 y.low, .slice A y.L.length cA, .slice B y.kept.length cB], .agg #[.int .i64 5, .int .i64 mf, .int .i64 0, .int .i64 seq, .string d, .string ⟨#[]⟩, .int .i64 mf, .string mb, .string ms]] wx (TakenTo wx A B y.L L0 y.n yt)) := Lib.hid fun wx hb => by
    have := taken_calls wx A B cA cB y L0 (h.below hb) (hk.below hb) hL0 hlo hlen hkl hn ⟨5, mf, 0, seq, d, noText, ⟨mf, mb, ms⟩⟩
    rw [hyt.out] at this
    exact this
  have HPr : Hid (∀ wx, Below w.heap.size w wx → Calls Try.prog 55 #[.agg #[.int .i64 y.n, .int .i64 y.view, .int .i64 y.low, .slice A y.L.length cA, .slice B y.kept.length cB], .int .i64 mf] wx fun e w' => e = .returned (.tuple #[.agg #[.int .i64 ((y.last mf).getD It.none).kind, .int .i64 ((y.last mf).getD It.none).frm, .int .i64 ((y.last mf).getD It.none).view, .int .i64 ((y.last mf).getD It.none).seq, .string ((y.last mf).getD It.none).digest, .string ((y.last mf).getD It.none).batch, .int .i64 ((y.last mf).getD It.none).m.frm, .string ((y.last mf).getD It.none).m.body, .string ((y.last mf).getD It.none).m.sig], .bool (y.last mf).isSome]) ∧ Below wx.heap.size wx w') := Lib.hid fun wx hb => rlast_calls wx A B cA y.kept.length cB y (h.below hb) (by omega) mf
  have HE : Hid (y.check ⟨mf, mb, ms⟩ 5 seq d = if mf < 0 ∨ y.n ≤ mf then ((y, 1) : Rl × Int) else if seq ≤ y.low then (y, 100) else match y.last mf with | some p => if seq = p.seq ∧ d ≠ p.digest then (y, 102) else if seq ≤ p.seq then (y, 101) else (yt, 0) | Option.none => (yt, 0)) := Lib.hid (by
    unfold Rl.check
    rw [hyt.out]
    rcases y.last mf with _ | p <;> simp)
  have HL0 := Lib.hid hL0
  obtain ⟨m, hm⟩ : ∃ m, Hid (y.L.length = m) := ⟨_, Lib.hid rfl⟩
  obtain ⟨k, hkk⟩ : ∃ k, Hid (y.kept.length = k) := ⟨_, Lib.hid rfl⟩
  obtain ⟨n, hnn⟩ : ∃ n, Hid (y.n = n) := ⟨_, Lib.hid rfl⟩
  obtain ⟨v, hv⟩ : ∃ v, Hid (y.view = v) := ⟨_, Lib.hid rfl⟩
  obtain ⟨lo, hl⟩ : ∃ lo, Hid (y.low = lo) := ⟨_, Lib.hid rfl⟩
  (try rw [hnn.out] at HTk)
  (try rw [hv.out] at HTk)
  (try rw [hl.out] at HTk)
  (try rw [hm.out] at HTk)
  (try rw [hkk.out] at HTk)
  (try rw [hnn.out] at HE)
  (try rw [hv.out] at HE)
  (try rw [hl.out] at HE)
  (try rw [hm.out] at HE)
  (try rw [hkk.out] at HE)
  (try rw [hnn.out] at HPr)
  (try rw [hv.out] at HPr)
  (try rw [hl.out] at HPr)
  (try rw [hm.out] at HPr)
  (try rw [hkk.out] at HPr)
  rw [hm.out, hkk.out, hnn.out, hv.out, hl.out]
  clear h hk hlo hlen hkl hn hL0
  have hb0 : Hid (Below w.heap.size w ((((w.alloc (.cells #[.int .i64 n, .int .i64 v, .int .i64 lo, .slice A m cA, .slice B k cB] 65)).alloc (.cells #[.int .i64 mf, .string mb, .string ms] 48)).alloc (.cells #[.int .i64 5, .int .i64 0, .int .i64 seq, .int .i64 0, .int .i64 0, .string d, .string ⟨#[]⟩, .slice none 0 0] 46)).alloc (.cells #[.int .i64 0, .int .i64 0, .int .i64 0, .slice none 0 0, .slice none 0 0] 65))) := Lib.hid (((((Below.refl _ _).alloc (Nat.le_refl _) _).alloc (by simp) _).alloc (by simp; omega) _).alloc (by simp; omega) _)
  have B0 : Hid (Blk ((((w.alloc (.cells #[.int .i64 n, .int .i64 v, .int .i64 lo, .slice A m cA, .slice B k cB] 65)).alloc (.cells #[.int .i64 mf, .string mb, .string ms] 48)).alloc (.cells #[.int .i64 5, .int .i64 0, .int .i64 seq, .int .i64 0, .int .i64 0, .string d, .string ⟨#[]⟩, .slice none 0 0] 46)).alloc (.cells #[.int .i64 0, .int .i64 0, .int .i64 0, .slice none 0 0, .slice none 0 0] 65)) w.heap.size 65 #[.int .i64 n, .int .i64 v, .int .i64 lo, .slice A m cA, .slice B k cB]) := Lib.hid ((((Blk.new w 65 #[.int .i64 n, .int .i64 v, .int .i64 lo, .slice A m cA, .slice B k cB]).alloc (.cells #[.int .i64 mf, .string mb, .string ms] 48)).alloc (.cells #[.int .i64 5, .int .i64 0, .int .i64 seq, .int .i64 0, .int .i64 0, .string d, .string ⟨#[]⟩, .slice none 0 0] 46)).alloc (.cells #[.int .i64 0, .int .i64 0, .int .i64 0, .slice none 0 0, .slice none 0 0] 65))
  have B1 : Hid (Blk ((((w.alloc (.cells #[.int .i64 n, .int .i64 v, .int .i64 lo, .slice A m cA, .slice B k cB] 65)).alloc (.cells #[.int .i64 mf, .string mb, .string ms] 48)).alloc (.cells #[.int .i64 5, .int .i64 0, .int .i64 seq, .int .i64 0, .int .i64 0, .string d, .string ⟨#[]⟩, .slice none 0 0] 46)).alloc (.cells #[.int .i64 0, .int .i64 0, .int .i64 0, .slice none 0 0, .slice none 0 0] 65)) (w.heap.size + 1) 48 #[.int .i64 mf, .string mb, .string ms]) := Lib.hid (by have := (((Blk.new (w.alloc (.cells #[.int .i64 n, .int .i64 v, .int .i64 lo, .slice A m cA, .slice B k cB] 65)) 48 #[.int .i64 mf, .string mb, .string ms]).alloc (.cells #[.int .i64 5, .int .i64 0, .int .i64 seq, .int .i64 0, .int .i64 0, .string d, .string ⟨#[]⟩, .slice none 0 0] 46)).alloc (.cells #[.int .i64 0, .int .i64 0, .int .i64 0, .slice none 0 0, .slice none 0 0] 65)); simpa using this)
  have B2 : Hid (Blk ((((w.alloc (.cells #[.int .i64 n, .int .i64 v, .int .i64 lo, .slice A m cA, .slice B k cB] 65)).alloc (.cells #[.int .i64 mf, .string mb, .string ms] 48)).alloc (.cells #[.int .i64 5, .int .i64 0, .int .i64 seq, .int .i64 0, .int .i64 0, .string d, .string ⟨#[]⟩, .slice none 0 0] 46)).alloc (.cells #[.int .i64 0, .int .i64 0, .int .i64 0, .slice none 0 0, .slice none 0 0] 65)) (w.heap.size + 1 + 1) 46 #[.int .i64 5, .int .i64 0, .int .i64 seq, .int .i64 0, .int .i64 0, .string d, .string ⟨#[]⟩, .slice none 0 0]) := Lib.hid (by have := ((Blk.new ((w.alloc (.cells #[.int .i64 n, .int .i64 v, .int .i64 lo, .slice A m cA, .slice B k cB] 65)).alloc (.cells #[.int .i64 mf, .string mb, .string ms] 48)) 46 #[.int .i64 5, .int .i64 0, .int .i64 seq, .int .i64 0, .int .i64 0, .string d, .string ⟨#[]⟩, .slice none 0 0]).alloc (.cells #[.int .i64 0, .int .i64 0, .int .i64 0, .slice none 0 0, .slice none 0 0] 65)); simpa using this)
  have B3 : Hid (Blk ((((w.alloc (.cells #[.int .i64 n, .int .i64 v, .int .i64 lo, .slice A m cA, .slice B k cB] 65)).alloc (.cells #[.int .i64 mf, .string mb, .string ms] 48)).alloc (.cells #[.int .i64 5, .int .i64 0, .int .i64 seq, .int .i64 0, .int .i64 0, .string d, .string ⟨#[]⟩, .slice none 0 0] 46)).alloc (.cells #[.int .i64 0, .int .i64 0, .int .i64 0, .slice none 0 0, .slice none 0 0] 65)) (w.heap.size + 1 + 1 + 1) 65 #[.int .i64 0, .int .i64 0, .int .i64 0, .slice none 0 0, .slice none 0 0]) := Lib.hid (by have := (Blk.new (((w.alloc (.cells #[.int .i64 n, .int .i64 v, .int .i64 lo, .slice A m cA, .slice B k cB] 65)).alloc (.cells #[.int .i64 mf, .string mb, .string ms] 48)).alloc (.cells #[.int .i64 5, .int .i64 0, .int .i64 seq, .int .i64 0, .int .i64 0, .string d, .string ⟨#[]⟩, .slice none 0 0] 46)) 65 #[.int .i64 0, .int .i64 0, .int .i64 0, .slice none 0 0, .slice none 0 0]); simpa using this)
  go_enter Try.func47, Try.ntmps47
  go_upto_region 1 with (fail)
  obtain ⟨g1, hg1⟩ : ∃ g1, w.heap.size = g1 := ⟨_, rfl⟩
  have HG := Lib.hid hg1
  rw [hg1] at B0 B1 B2 B3 ⊢
  clear hg1
  generalize World.alloc (World.alloc (World.alloc (World.alloc w _) _) _) _ = wy at hb0 B0 B1 B2 B3 ⊢
  have HX : Hid (∀ wx : World, Below wy.heap.size wy wx → (wx.cell? ⟨g1, 0, none⟩ = some (.int .i64 n) ∧ wx.cell? ⟨g1, 1, none⟩ = some (.int .i64 v) ∧ wx.cell? ⟨g1, 2, none⟩ = some (.int .i64 lo) ∧ wx.cell? ⟨g1, 3, none⟩ = some (.slice A m cA) ∧ wx.cell? ⟨g1, 4, none⟩ = some (.slice B k cB)) ∧ (wx.cell? ⟨g1 + 1, 0, none⟩ = some (.int .i64 mf) ∧ wx.cell? ⟨g1 + 1, 1, none⟩ = some (.string mb) ∧ wx.cell? ⟨g1 + 1, 2, none⟩ = some (.string ms)) ∧ (wx.cell? ⟨g1 + 1 + 1, 0, none⟩ = some (.int .i64 5) ∧ wx.cell? ⟨g1 + 1 + 1, 1, none⟩ = some (.int .i64 0) ∧ wx.cell? ⟨g1 + 1 + 1, 2, none⟩ = some (.int .i64 seq) ∧ wx.cell? ⟨g1 + 1 + 1, 3, none⟩ = some (.int .i64 0) ∧ wx.cell? ⟨g1 + 1 + 1, 4, none⟩ = some (.int .i64 0) ∧ wx.cell? ⟨g1 + 1 + 1, 5, none⟩ = some (.string d) ∧ wx.cell? ⟨g1 + 1 + 1, 6, none⟩ = some (.string ⟨#[]⟩) ∧ wx.cell? ⟨g1 + 1 + 1, 7, none⟩ = some (.slice none 0 0)) ∧ (wx.cell? ⟨g1 + 1 + 1 + 1, 0, none⟩ = some (.int .i64 0) ∧ wx.cell? ⟨g1 + 1 + 1 + 1, 1, none⟩ = some (.int .i64 0) ∧ wx.cell? ⟨g1 + 1 + 1 + 1, 2, none⟩ = some (.int .i64 0) ∧ wx.cell? ⟨g1 + 1 + 1 + 1, 3, none⟩ = some (.slice none 0 0) ∧ wx.cell? ⟨g1 + 1 + 1 + 1, 4, none⟩ = some (.slice none 0 0)) ∧ (wx.frozen? ⟨g1 + 1 + 1 + 1, 0, none⟩ = false ∧ wx.frozen? ⟨g1 + 1 + 1 + 1, 1, none⟩ = false ∧ wx.frozen? ⟨g1 + 1 + 1 + 1, 2, none⟩ = false ∧ wx.frozen? ⟨g1 + 1 + 1 + 1, 3, none⟩ = false ∧ wx.frozen? ⟨g1 + 1 + 1 + 1, 4, none⟩ = false) ∧ (wx.frozen? ⟨g1, 0, none⟩ = false ∧ wx.frozen? ⟨g1, 1, none⟩ = false ∧ wx.frozen? ⟨g1, 2, none⟩ = false ∧ wx.frozen? ⟨g1, 3, none⟩ = false ∧ wx.frozen? ⟨g1, 4, none⟩ = false)) := Lib.hid fun wx hb => by
    have b0 := B0.out.below hb B0.out.lt
    have b1 := B1.out.below hb B1.out.lt
    have b2 := B2.out.below hb B2.out.lt
    have b3 := B3.out.below hb B3.out.lt
    exact ⟨⟨b0.cell 0, b0.cell 1, b0.cell 2, b0.cell 3, b0.cell 4⟩, ⟨b1.cell 0, b1.cell 1, b1.cell 2⟩, ⟨b2.cell 0, b2.cell 1, b2.cell 2, b2.cell 3, b2.cell 4, b2.cell 5, b2.cell 6, b2.cell 7⟩, ⟨b3.cell 0, b3.cell 1, b3.cell 2, b3.cell 3, b3.cell 4⟩, ⟨b3.frozen 0, b3.frozen 1, b3.frozen 2, b3.frozen 3, b3.frozen 4⟩, ⟨b0.frozen 0, b0.frozen 1, b0.frozen 2, b0.frozen 3, b0.frozen 4⟩⟩
  have HGR : Hid (g1 + 1 + 1 + 1 < wy.heap.size) := Lib.hid B3.out.lt
  obtain ⟨⟨c0, c1, c2, c3, c4⟩, ⟨s0, s1, s2⟩, ⟨t0, t1, t2, t3, t4, t5, t6, t7⟩, ⟨z0, z1, z2, z3, z4⟩, ⟨f0, f1, f2, f3, f4⟩, ⟨e0, e1, e2, e3, e4⟩⟩ := HX.out wy (Below.refl _ _)
  have HB2 : Hid (Below wy.heap.size wy wy) := Lib.hid (Below.refl _ _)
  by_cases a1 : mf < 0
  · have E : Hid (y.check ⟨mf, mb, ms⟩ 5 seq d = (y, 1)) := Lib.hid (by rw [HE.out, if_pos (.inl a1)])
    clear HE HPr HTk
    go_wp2
    (try simp only [Exit.inBlock, Exit.then])
    refine bodyPost_ret (by simp [results, Try.results47, asAddr, go_sem, z0, z1, z2, z3, z4]; rfl) rfl ?_
    have hbz := below_five (B := w.heap.size) (g := g1 + 1 + 1 + 1) (below_next hb0.out (Below.refl _ _)) (by rw [HG.out]; omega) (.int .i64 n) (.int .i64 v) (.int .i64 lo) (.slice A m cA) (.slice B k cB)
    exact rtold E.out hm.out hkk.out hv.out hl.out HL0.out hbz (Lasts.same _ _ _)
  by_cases a2 : n ≤ mf
  · have E : Hid (y.check ⟨mf, mb, ms⟩ 5 seq d = (y, 1)) := Lib.hid (by rw [HE.out, if_pos (.inr a2)])
    have a1B : decide (mf < 0) = false := by simpa using a1
    clear HE HPr HTk
    go_wp2
    (try simp only [Exit.inBlock, Exit.then])
    refine bodyPost_ret (by simp [results, Try.results47, asAddr, go_sem, z0, z1, z2, z3, z4]; rfl) rfl ?_
    have hbz := below_five (B := w.heap.size) (g := g1 + 1 + 1 + 1) (below_next hb0.out (Below.refl _ _)) (by rw [HG.out]; omega) (.int .i64 n) (.int .i64 v) (.int .i64 lo) (.slice A m cA) (.slice B k cB)
    exact rtold E.out hm.out hkk.out hv.out hl.out HL0.out hbz (Lasts.same _ _ _)
  have a1B : decide (mf < 0) = false := by simpa using a1
  have a2B : decide (n ≤ mf) = false := by simpa using a2
  have HE2 := Lib.hid (HE.out.trans (if_neg (by omega)))
  clear HE
  by_cases hle : seq ≤ lo
  · have E : Hid (y.check ⟨mf, mb, ms⟩ 5 seq d = (y, 100)) := Lib.hid (by rw [HE2.out, if_pos hle])
    clear HTk HPr HE2
    go_wp2
    (try simp only [Exit.inBlock, Exit.then])
    refine bodyPost_ret (by simp [results, Try.results47, asAddr, go_sem, z0, z1, z2, z3, z4]; rfl) rfl ?_
    have hbz := below_five (B := w.heap.size) (g := g1 + 1 + 1 + 1) (below_next hb0.out (Below.refl _ _)) (by rw [HG.out]; omega) (.int .i64 n) (.int .i64 v) (.int .i64 lo) (.slice A m cA) (.slice B k cB)
    exact rtold E.out hm.out hkk.out hv.out hl.out HL0.out hbz (Lasts.same _ _ _)
  have hleB : decide (seq ≤ lo) = false := by simpa using hle
  have HE3 := Lib.hid (HE2.out.trans (if_neg hle))
  clear HE2
  have HPx : Hid (∀ w, _) := HPr
  cases hpo : y.last mf with
  | none =>
    have E : Hid (y.check ⟨mf, mb, ms⟩ 5 seq d = (yt, 0)) := Lib.hid (by rw [HE3.out, hpo])
    rw [hpo] at HPx
    simp only [Option.getD_none, Option.isSome_none] at HPx
    generalize It.none = p at HPx
    clear hpo HE3 HPr
    go_upto_region 6 with (first
      | (go_at_call 55; (with_reducible refine (HPx.out _ (below_next hb0.out HB2.out)).mono ?_); rintro e w3 ⟨rfl, hh⟩; have HB3 := Lib.hid (below_next HB2.out hh); clear hh c0 c1 c2 c3 c4 s0 s1 s2 t0 t1 t2 t3 t4 t5 t6 t7 z0 z1 z2 z3 z4 f0 f1 f2 f3 f4 e0 e1 e2 e3 e4))
    have B4 : Hid (Blk (w3.alloc (.cells #[.int .i64 p.kind, .int .i64 p.frm, .int .i64 p.view, .int .i64 p.seq, .string p.digest, .string p.batch, .int .i64 p.m.frm, .string p.m.body, .string p.m.sig] 106)) w3.heap.size 106 #[.int .i64 p.kind, .int .i64 p.frm, .int .i64 p.view, .int .i64 p.seq, .string p.digest, .string p.batch, .int .i64 p.m.frm, .string p.m.body, .string p.m.sig]) := Lib.hid (Blk.new _ _ _)
    have HB4 : Hid (Below wy.heap.size wy (w3.alloc (.cells #[.int .i64 p.kind, .int .i64 p.frm, .int .i64 p.view, .int .i64 p.seq, .string p.digest, .string p.batch, .int .i64 p.m.frm, .string p.m.body, .string p.m.sig] 106))) := Lib.hid (HB3.out.alloc HB3.out.size _)
    obtain ⟨gp, hgp⟩ : ∃ gp, w3.heap.size = gp := ⟨_, rfl⟩
    rw [hgp] at B4 ⊢
    clear hgp HB3
    generalize World.alloc w3 _ = w4 at B4 HB4 ⊢
    obtain ⟨⟨c0, c1, c2, c3, c4⟩, ⟨s0, s1, s2⟩, ⟨t0, t1, t2, t3, t4, t5, t6, t7⟩, ⟨z0, z1, z2, z3, z4⟩, ⟨f0, f1, f2, f3, f4⟩, ⟨e0, e1, e2, e3, e4⟩⟩ := HX.out w4 HB4.out
    have HTx := Lib.hid (HTk.out w4 (below_next hb0.out HB4.out))
    have HGR : Hid (g1 + 1 + 1 + 1 < w4.heap.size) := Lib.hid (Nat.lt_of_lt_of_le HGR.out HB4.out.size)
    clear HTk HPx
    go_wp2_with (first
      | (go_at_call 53; go_must ((with_reducible refine (HTx.out).mono ?_); rintro e wt ⟨A', c', B', cB', L1, rfl, hL1, hbt, hla⟩; have HL1 := Lib.hid hL1; have HBT := Lib.hid (below_next HB4.out hbt); have HLa := Lib.hid hla; clear hL1 hbt hla c0 c1 c2 c3 c4 s0 s1 s2 t0 t1 t2 t3 t4 t5 t6 t7 z0 z1 z2 z3 z4 f0 f1 f2 f3 f4 e0 e1 e2 e3 e4; obtain ⟨⟨c0, c1, c2, c3, c4⟩, ⟨s0, s1, s2⟩, ⟨t0, t1, t2, t3, t4, t5, t6, t7⟩, ⟨z0, z1, z2, z3, z4⟩, ⟨f0, f1, f2, f3, f4⟩, ⟨e0, e1, e2, e3, e4⟩⟩ := HX.out wt HBT.out)))
    (try simp only [Exit.inBlock, Exit.then])
    refine bodyPost_ret (by simp [results, Try.results47, asAddr, go_sem, z0, z1, z2, z3, z4]; rfl) rfl ?_
    exact rtold E.out rfl rfl rfl rfl HL1.out (below_five (B := w.heap.size) (g := g1 + 1 + 1 + 1) (below_next hb0.out HBT.out) (by rw [HG.out]; omega) _ _ _ _ _) (HLa.out.call (by rw [HG.out]; omega) HGR.out _ _ _ _ _)
  | some p =>
    have HE4 : Hid (y.check ⟨mf, mb, ms⟩ 5 seq d = if seq = p.seq ∧ d ≠ p.digest then ((y, 102) : Rl × Int) else if seq ≤ p.seq then (y, 101) else (yt, 0)) := Lib.hid (by rw [HE3.out, hpo])
    rw [hpo] at HPx
    simp only [Option.getD_some, Option.isSome_some] at HPx
    clear hpo HE3 HPr
    go_upto_region 6 with (first
      | (go_at_call 55; (with_reducible refine (HPx.out _ (below_next hb0.out HB2.out)).mono ?_); rintro e w3 ⟨rfl, hh⟩; have HB3 := Lib.hid (below_next HB2.out hh); clear hh c0 c1 c2 c3 c4 s0 s1 s2 t0 t1 t2 t3 t4 t5 t6 t7 z0 z1 z2 z3 z4 f0 f1 f2 f3 f4 e0 e1 e2 e3 e4))
    have B4 : Hid (Blk (w3.alloc (.cells #[.int .i64 p.kind, .int .i64 p.frm, .int .i64 p.view, .int .i64 p.seq, .string p.digest, .string p.batch, .int .i64 p.m.frm, .string p.m.body, .string p.m.sig] 106)) w3.heap.size 106 #[.int .i64 p.kind, .int .i64 p.frm, .int .i64 p.view, .int .i64 p.seq, .string p.digest, .string p.batch, .int .i64 p.m.frm, .string p.m.body, .string p.m.sig]) := Lib.hid (Blk.new _ _ _)
    have HB4 : Hid (Below wy.heap.size wy (w3.alloc (.cells #[.int .i64 p.kind, .int .i64 p.frm, .int .i64 p.view, .int .i64 p.seq, .string p.digest, .string p.batch, .int .i64 p.m.frm, .string p.m.body, .string p.m.sig] 106))) := Lib.hid (HB3.out.alloc HB3.out.size _)
    obtain ⟨gp, hgp⟩ : ∃ gp, w3.heap.size = gp := ⟨_, rfl⟩
    rw [hgp] at B4 ⊢
    clear hgp HB3
    generalize World.alloc w3 _ = w4 at B4 HB4 ⊢
    obtain ⟨⟨c0, c1, c2, c3, c4⟩, ⟨s0, s1, s2⟩, ⟨t0, t1, t2, t3, t4, t5, t6, t7⟩, ⟨z0, z1, z2, z3, z4⟩, ⟨f0, f1, f2, f3, f4⟩, ⟨e0, e1, e2, e3, e4⟩⟩ := HX.out w4 HB4.out
    have p4 : w4.cell? ⟨gp, 4, none⟩ = some (.string p.digest) := B4.out.cell 4
    have p3 : w4.cell? ⟨gp, 3, none⟩ = some (.int .i64 p.seq) := B4.out.cell 3
    by_cases h1 : seq = p.seq
    · have h1B : (seq == p.seq) = true := by simpa using h1
      have h1L : seq ≤ p.seq := by omega
      by_cases h2 : d = p.digest
      · have E : Hid (y.check ⟨mf, mb, ms⟩ 5 seq d = (y, 101)) := Lib.hid (by rw [HE4.out, if_neg (fun hh => hh.2 h2), if_pos h1L])
        rw [← h2] at p4
        clear HTk HE4
        go_wp2
        (try simp only [Exit.inBlock, Exit.then])
        refine bodyPost_ret (by simp [results, Try.results47, asAddr, go_sem, z0, z1, z2, z3, z4]; rfl) rfl ?_
        have hbz := below_five (B := w.heap.size) (g := g1 + 1 + 1 + 1) (below_next hb0.out HB4.out) (by rw [HG.out]; omega) (.int .i64 n) (.int .i64 v) (.int .i64 lo) (.slice A m cA) (.slice B k cB)
        exact rtold E.out hm.out hkk.out hv.out hl.out HL0.out hbz (Lasts.same _ _ _)
      · have E : Hid (y.check ⟨mf, mb, ms⟩ 5 seq d = (y, 102)) := Lib.hid (by rw [HE4.out, if_pos ⟨h1, h2⟩])
        have k2 := text_ne h2
        have k3 := text_apart h2
        have k4 := text_differ h2
        have k5 : (d != p.digest) = true := by rw [bne, k4]; rfl
        clear HTk HE4
        go_wp2
        (try simp only [Exit.inBlock, Exit.then])
        refine bodyPost_ret (by simp [results, Try.results47, asAddr, go_sem, z0, z1, z2, z3, z4]; rfl) rfl ?_
        have hbz := below_five (B := w.heap.size) (g := g1 + 1 + 1 + 1) (below_next hb0.out HB4.out) (by rw [HG.out]; omega) (.int .i64 n) (.int .i64 v) (.int .i64 lo) (.slice A m cA) (.slice B k cB)
        exact rtold E.out hm.out hkk.out hv.out hl.out HL0.out hbz (Lasts.same _ _ _)
    · have h1B : (seq == p.seq) = false := by simpa using h1
      by_cases h3 : seq ≤ p.seq
      · have E : Hid (y.check ⟨mf, mb, ms⟩ 5 seq d = (y, 101)) := Lib.hid (by rw [HE4.out, if_neg (fun hh => h1 hh.1), if_pos h3])
        clear HTk HE4
        go_wp2
        (try simp only [Exit.inBlock, Exit.then])
        refine bodyPost_ret (by simp [results, Try.results47, asAddr, go_sem, z0, z1, z2, z3, z4]; rfl) rfl ?_
        have hbz := below_five (B := w.heap.size) (g := g1 + 1 + 1 + 1) (below_next hb0.out HB4.out) (by rw [HG.out]; omega) (.int .i64 n) (.int .i64 v) (.int .i64 lo) (.slice A m cA) (.slice B k cB)
        exact rtold E.out hm.out hkk.out hv.out hl.out HL0.out hbz (Lasts.same _ _ _)
      · have E : Hid (y.check ⟨mf, mb, ms⟩ 5 seq d = (yt, 0)) := Lib.hid (by rw [HE4.out, if_neg (fun hh => h1 hh.1), if_neg h3])
        have h3B : decide (seq ≤ p.seq) = false := by simpa using h3
        clear HE4
        have HTx := Lib.hid (HTk.out w4 (below_next hb0.out HB4.out))
        have HGR : Hid (g1 + 1 + 1 + 1 < w4.heap.size) := Lib.hid (Nat.lt_of_lt_of_le HGR.out HB4.out.size)
        clear HTk HPx
        go_wp2_with (first
          | (go_at_call 53; go_must ((with_reducible refine (HTx.out).mono ?_); rintro e wt ⟨A', c', B', cB', L1, rfl, hL1, hbt, hla⟩; have HL1 := Lib.hid hL1; have HBT := Lib.hid (below_next HB4.out hbt); have HLa := Lib.hid hla; clear hL1 hbt hla c0 c1 c2 c3 c4 s0 s1 s2 t0 t1 t2 t3 t4 t5 t6 t7 z0 z1 z2 z3 z4 f0 f1 f2 f3 f4 e0 e1 e2 e3 e4; obtain ⟨⟨c0, c1, c2, c3, c4⟩, ⟨s0, s1, s2⟩, ⟨t0, t1, t2, t3, t4, t5, t6, t7⟩, ⟨z0, z1, z2, z3, z4⟩, ⟨f0, f1, f2, f3, f4⟩, ⟨e0, e1, e2, e3, e4⟩⟩ := HX.out wt HBT.out)))
        (try simp only [Exit.inBlock, Exit.then])
        refine bodyPost_ret (by simp [results, Try.results47, asAddr, go_sem, z0, z1, z2, z3, z4]; rfl) rfl ?_
        exact rtold E.out rfl rfl rfl rfl HL1.out (below_five (B := w.heap.size) (g := g1 + 1 + 1 + 1) (below_next hb0.out HBT.out) (by rw [HG.out]; omega) _ _ _ _ _) (HLa.out.call (by rw [HG.out]; omega) HGR.out _ _ _ _ _)
end Go.Proofs.Ytedndjbhgbdpoaa