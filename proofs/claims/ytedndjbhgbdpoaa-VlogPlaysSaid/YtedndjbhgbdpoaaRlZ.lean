/- The reference's taken where nothing is prepared (printed by gentk.py). -/
import Derived.Test.YtedndjbhgbdpoaaRlK
import Derived.Test.YtedndjbhgbdpoaaRlU
namespace Go.Proofs.Ytedndjbhgbdpoaa
open Go.RowKit
set_option linter.unusedSimpArgs false
set_option linter.unusedVariables false
set_option maxHeartbeats 4000000 in
set_option maxRecDepth 20000 in
theorem taken_short (w : World) (A B : Option Addr) (cA cB : Nat) (y : Rl) (h : IRow w A y.L) (L0 : List (Kb × Value)) (hk : KVRow w B L0) (hL0 : L0.map Prod.fst = y.kept) (hlo : 0 ≤ y.low ∧ y.low ≤ 1073741824) (hlen : y.L.length ≤ 900) (hn : y.n = 4 ∨ y.n = 7 ∨ y.n = 10 ∨ y.n = 13) (x : It) (hs : x.kind = 5 ∨ (((y.more x).agree 3 x.seq).length : Int) < (y.more x).quorum) :
    Calls Try.prog 53 #[.agg #[.int .i64 y.n, .int .i64 y.view, .int .i64 y.low, .slice A y.L.length cA, .slice B y.kept.length cB], .agg #[.int .i64 x.kind, .int .i64 x.frm, .int .i64 x.view, .int .i64 x.seq, .string x.digest, .string x.batch, .int .i64 x.m.frm, .string x.m.body, .string x.m.sig]] w (TakenTo w A B y.L L0 y.n (y.taken x)) := by
  have E : Hid (y.taken x = y.more x) := Lib.hid (by unfold Rl.taken; exact if_pos hs)
  have hlen : y.L.length ≤ 999 := by omega
  have HL0 := Lib.hid hL0
  have HSrc : Hid (∀ wx, Below w.heap.size w wx → Src Try.prog 9 63 (.slice A y.L.length cA) y.L.length (icells y.L) wx) := Lib.hid fun wx hb => (h.below hb).src cA
  have HAg : Hid (∀ wx A3 c3, IRow wx A3 (y.L ++ [x]) → Calls Try.prog 57 #[.agg #[.int .i64 y.n, .int .i64 y.view, .int .i64 y.low, .slice A3 (y.L.length + 1) c3, .slice B y.kept.length cB], .int .i64 3, .int .i64 x.seq] wx (TellsList wx ((y.more x).agree 3 x.seq))) := Lib.hid fun wx A3 c3 hr => by
    have := ragree_calls wx A3 B c3 y.kept.length cB (y.more x) hr hlo (by show (y.L ++ [x]).length ≤ 1000; rw [List.length_append]; simpa using hlen) hn 3 x.seq
    have e : (y.more x).L.length = y.L.length + 1 := by show (y.L ++ [x]).length = _; rw [List.length_append]; rfl
    rw [e] at this
    exact this
  have HPr : Hid (∀ wx A3 c3, IRow wx A3 (y.L ++ [x]) → Calls Try.prog 52 #[.agg #[.int .i64 y.n, .int .i64 y.view, .int .i64 y.low, .slice A3 (y.L.length + 1) c3, .slice B y.kept.length cB], .int .i64 x.seq] wx (TellsItem wx ((y.more x).proposal x.seq))) := Lib.hid fun wx A3 c3 hr => by
    have := rproposal_calls wx A3 B c3 y.kept.length cB (y.more x) hr hlo (by show (y.L ++ [x]).length ≤ 1000; rw [List.length_append]; simpa using hlen) x.seq
    have e : (y.more x).L.length = y.L.length + 1 := by show (y.L ++ [x]).length = _; rw [List.length_append]; rfl
    rw [e] at this
    exact this
  have HQ : Hid (∀ wx A3 c3, Calls Try.prog 56 #[.agg #[.int .i64 y.n, .int .i64 y.view, .int .i64 y.low, .slice A3 (y.L.length + 1) c3, .slice B y.kept.length cB]] wx fun e w' => e = .returned (.int .i64 (y.n - (y.n - 1) / 3)) ∧ Below wx.heap.size wx w') := Lib.hid fun wx A3 c3 => rquorum_calls wx y.n y.view y.low A3 B (y.L.length + 1) c3 y.kept.length cB hn
  have hLl : Hid ((y.L ++ [x]).length = y.L.length + 1) := Lib.hid (by rw [List.length_append]; rfl)
  obtain ⟨m, hm⟩ : ∃ m, Hid (y.L.length = m) := ⟨_, Lib.hid rfl⟩
  obtain ⟨k, hkk⟩ : ∃ k, Hid (y.kept.length = k) := ⟨_, Lib.hid rfl⟩
  obtain ⟨n, hnn⟩ : ∃ n, Hid (y.n = n) := ⟨_, Lib.hid rfl⟩
  obtain ⟨v, hv⟩ : ∃ v, Hid (y.view = v) := ⟨_, Lib.hid rfl⟩
  obtain ⟨lo, hl⟩ : ∃ lo, Hid (y.low = lo) := ⟨_, Lib.hid rfl⟩
  obtain ⟨ag, hag⟩ : ∃ ag, Hid ((y.more x).agree 3 x.seq = ag) := ⟨_, Lib.hid rfl⟩
  rw [hm.out] at HSrc HAg HPr HQ hlen hLl
  rw [hkk.out] at HAg HPr HQ
  rw [hnn.out] at HAg HPr HQ hn
  rw [hv.out] at HAg HPr HQ
  rw [hl.out] at HAg HPr HQ
  rw [hag.out] at HAg
  rw [hm.out, hkk.out, hnn.out, hv.out, hl.out]
  obtain ⟨q, hq⟩ : ∃ q : Nat, Hid (n - (n - 1) / 3 = (q : Int)) := ⟨(n - (n - 1) / 3).toNat, Lib.hid (by omega)⟩
  rw [hq.out] at HQ
  have hq1 : 1 ≤ q := by have := hq.out; omega
  have hq9 : q ≤ 9 := by have := hq.out; omega
  obtain ⟨i1, hi1, hy0, hy1, hy2⟩ := info_parts info_item
  have HI1 := Lib.hid hi1
  have HY0 := Lib.hid hy0
  have HY1 := Lib.hid hy1
  have HY2 := Lib.hid hy2
  clear hi1 hy0 hy1 hy2 h hk hn hlo hL0
  have hb0 : Hid (Below w.heap.size w (((w.alloc (.cells #[.int .i64 n, .int .i64 v, .int .i64 lo, .slice A m cA, .slice B k cB] 65)).alloc (.cells #[.int .i64 x.kind, .int .i64 x.frm, .int .i64 x.view, .int .i64 x.seq, .string x.digest, .string x.batch, .int .i64 x.m.frm, .string x.m.body, .string x.m.sig] 106)).alloc (.cells #[.int .i64 0, .int .i64 0, .int .i64 0, .slice none 0 0, .slice none 0 0] 65))) := Lib.hid ((((Below.refl _ _).alloc (Nat.le_refl _) _).alloc (by simp) _).alloc (by simp; omega) _)
  have B1 : Hid (Blk (((w.alloc (.cells #[.int .i64 n, .int .i64 v, .int .i64 lo, .slice A m cA, .slice B k cB] 65)).alloc (.cells #[.int .i64 x.kind, .int .i64 x.frm, .int .i64 x.view, .int .i64 x.seq, .string x.digest, .string x.batch, .int .i64 x.m.frm, .string x.m.body, .string x.m.sig] 106)).alloc (.cells #[.int .i64 0, .int .i64 0, .int .i64 0, .slice none 0 0, .slice none 0 0] 65)) w.heap.size 65 #[.int .i64 n, .int .i64 v, .int .i64 lo, .slice A m cA, .slice B k cB]) := Lib.hid (((Blk.new _ _ _).alloc _).alloc _)
  have B2 : Hid (Blk (((w.alloc (.cells #[.int .i64 n, .int .i64 v, .int .i64 lo, .slice A m cA, .slice B k cB] 65)).alloc (.cells #[.int .i64 x.kind, .int .i64 x.frm, .int .i64 x.view, .int .i64 x.seq, .string x.digest, .string x.batch, .int .i64 x.m.frm, .string x.m.body, .string x.m.sig] 106)).alloc (.cells #[.int .i64 0, .int .i64 0, .int .i64 0, .slice none 0 0, .slice none 0 0] 65)) (w.heap.size + 1) 106 #[.int .i64 x.kind, .int .i64 x.frm, .int .i64 x.view, .int .i64 x.seq, .string x.digest, .string x.batch, .int .i64 x.m.frm, .string x.m.body, .string x.m.sig]) := Lib.hid (by have := (Blk.new (w.alloc (.cells #[.int .i64 n, .int .i64 v, .int .i64 lo, .slice A m cA, .slice B k cB] 65)) 106 #[.int .i64 x.kind, .int .i64 x.frm, .int .i64 x.view, .int .i64 x.seq, .string x.digest, .string x.batch, .int .i64 x.m.frm, .string x.m.body, .string x.m.sig]).alloc (.cells #[.int .i64 0, .int .i64 0, .int .i64 0, .slice none 0 0, .slice none 0 0] 65); simpa using this)
  have B3 : Hid (Blk (((w.alloc (.cells #[.int .i64 n, .int .i64 v, .int .i64 lo, .slice A m cA, .slice B k cB] 65)).alloc (.cells #[.int .i64 x.kind, .int .i64 x.frm, .int .i64 x.view, .int .i64 x.seq, .string x.digest, .string x.batch, .int .i64 x.m.frm, .string x.m.body, .string x.m.sig] 106)).alloc (.cells #[.int .i64 0, .int .i64 0, .int .i64 0, .slice none 0 0, .slice none 0 0] 65)) (w.heap.size + 1 + 1) 65 #[.int .i64 0, .int .i64 0, .int .i64 0, .slice none 0 0, .slice none 0 0]) := Lib.hid (by have := Blk.new ((w.alloc (.cells #[.int .i64 n, .int .i64 v, .int .i64 lo, .slice A m cA, .slice B k cB] 65)).alloc (.cells #[.int .i64 x.kind, .int .i64 x.frm, .int .i64 x.view, .int .i64 x.seq, .string x.digest, .string x.batch, .int .i64 x.m.frm, .string x.m.body, .string x.m.sig] 106)) 65 #[.int .i64 0, .int .i64 0, .int .i64 0, .slice none 0 0, .slice none 0 0]; simpa using this)
  go_enter Try.func53, Try.ntmps53
  go_upto_region 1 with (fail)
  obtain ⟨g1, hg1⟩ : ∃ g1, w.heap.size = g1 := ⟨_, rfl⟩
  have HG := Lib.hid hg1
  rw [hg1] at B1 B2 B3 ⊢
  clear hg1
  generalize World.alloc (World.alloc (World.alloc w _) _) _ = wy at hb0 B1 B2 B3 ⊢
  have hgy : Hid (g1 + 1 + 1 < wy.heap.size) := Lib.hid B3.out.lt
  have d3 : wy.cell? ⟨g1, 3, none⟩ = some (.slice A m cA) := B1.out.cell 3
  have HSy := Lib.hid (HSrc.out wy hb0.out)
  clear HSrc
  go_upto_region 3 with (first
    | (refine wpList_append_mine rfl (.tmp 14) (.tmp 16) 63 63 rfl 106 i1 (.agg #[.int .i64 0, .int .i64 0, .int .i64 0, .int .i64 0, .string noText, .string noText, .int .i64 0, .string noText, .string noText]) 104 Try.underlying63 HI1.out HY0.out HY1.out HY2.out rfl (by decide) rfl (Mine.empty wy _ 9 _) (Below.refl _ _) _ m (icells y.L) rfl HSy.out (by unfold maxLen; omega) (by omega) ?_; intro A2 c2 w2 hm2 hb2; have HM2 := Lib.hid hm2; have HB2 := Lib.hid hb2; clear hm2 hb2))
  rw [Nat.zero_add, List.nil_append] at HM2
  clear d3 HSy
  obtain ⟨x0, x1, x2, x3, x4, x5, x6, x7, x8⟩ : w2.cell? ⟨g1 + 1, 0, none⟩ = some (.int .i64 x.kind) ∧ w2.cell? ⟨g1 + 1, 1, none⟩ = some (.int .i64 x.frm) ∧ w2.cell? ⟨g1 + 1, 2, none⟩ = some (.int .i64 x.view) ∧ w2.cell? ⟨g1 + 1, 3, none⟩ = some (.int .i64 x.seq) ∧ w2.cell? ⟨g1 + 1, 4, none⟩ = some (.string x.digest) ∧ w2.cell? ⟨g1 + 1, 5, none⟩ = some (.string x.batch) ∧ w2.cell? ⟨g1 + 1, 6, none⟩ = some (.int .i64 x.m.frm) ∧ w2.cell? ⟨g1 + 1, 7, none⟩ = some (.string x.m.body) ∧ w2.cell? ⟨g1 + 1, 8, none⟩ = some (.string x.m.sig) := by
    have b2 := B2.out.below HB2.out B2.out.lt
    exact ⟨b2.cell 0, b2.cell 1, b2.cell 2, b2.cell 3, b2.cell 4, b2.cell 5, b2.cell 6, b2.cell 7, b2.cell 8⟩
  go_upto_region 4 with (first
    | (refine wpList_append_mine rfl (.tmp 18) (.tmp 20) 63 63 rfl 106 i1 (.agg #[.int .i64 0, .int .i64 0, .int .i64 0, .int .i64 0, .string noText, .string noText, .int .i64 0, .string noText, .string noText]) 104 Try.underlying63 HI1.out HY0.out HY1.out HY2.out rfl (by decide) rfl (HM2.out.alloc _) (HB2.out.alloc HB2.out.size _) _ 1 [.int .i64 x.kind, .int .i64 x.frm, .int .i64 x.view, .int .i64 x.seq, .string x.digest, .string x.batch, .int .i64 x.m.frm, .string x.m.body, .string x.m.sig] rfl (src_new Try.underlying63 _ _ _ 1 1 rfl (by simp [Value.oneCell'])) (by unfold maxLen; omega) (by omega) ?_; intro A3 c3 w3 hm3 hb3; have HM3 := Lib.hid hm3; have HB3 := Lib.hid hb3; have s3 : w3.cell? ⟨g1, 3, none⟩ = some (.slice A m cA) := (B1.out.below hb3 B1.out.lt).cell 3; have t3 := (B1.out.below hb3 B1.out.lt).frozen 3; clear hm3 hb3))
  clear x0 x1 x2 x3 x4 x5 x6 x7 x8 s3 t3
  have HM4 : Hid (Mine wy (w3.setCell ⟨g1, 3, none⟩ (.slice A3 (m + 1) c3)) 9 (.slice A3 (m + 1) c3) (m + 1) (icells (y.L ++ [x]))) := Lib.hid (by
    have e : icells (y.L ++ [x]) = icells y.L ++ [.int .i64 x.kind, .int .i64 x.frm, .int .i64 x.view, .int .i64 x.seq, .string x.digest, .string x.batch, .int .i64 x.m.frm, .string x.m.body, .string x.m.sig] := icells_append _ _
    rw [e]
    exact HM3.out.cell1 (by have := hgy.out; omega) _)
  have BL : Hid (Blk (w3.setCell ⟨g1, 3, none⟩ (.slice A3 (m + 1) c3)) g1 65 #[.int .i64 n, .int .i64 v, .int .i64 lo, .slice A3 (m + 1) c3, .slice B k cB]) := Lib.hid ((B1.out.below HB3.out B1.out.lt).set_ 3 _)
  have BX : Hid (Blk (w3.setCell ⟨g1, 3, none⟩ (.slice A3 (m + 1) c3)) (g1 + 1) 106 #[.int .i64 x.kind, .int .i64 x.frm, .int .i64 x.view, .int .i64 x.seq, .string x.digest, .string x.batch, .int .i64 x.m.frm, .string x.m.body, .string x.m.sig]) := Lib.hid ((B2.out.below HB3.out B2.out.lt).far (by omega) _)
  have BR : Hid (Blk (w3.setCell ⟨g1, 3, none⟩ (.slice A3 (m + 1) c3)) (g1 + 1 + 1) 65 #[.int .i64 0, .int .i64 0, .int .i64 0, .slice none 0 0, .slice none 0 0]) := Lib.hid ((B3.out.below HB3.out B3.out.lt).far (by omega) _)
  have hbw : Hid (Below w.heap.size w (w3.setCell ⟨g1, 3, none⟩ (.slice A3 (m + 1) c3))) := Lib.hid ((below_next hb0.out HB3.out).setCell (by rw [HG.out]; exact Nat.le_refl _) _)
  have hsz : Hid (wy.heap.size ≤ (w3.setCell ⟨g1, 3, none⟩ (.slice A3 (m + 1) c3)).heap.size) := Lib.hid (by simpa using HB3.out.size)
  clear B1 B2 B3 HB3 HM3 HM2 HB2 hb0
  generalize World.setCell w3 _ _ = wz at HM4 BL BX BR hbw hsz ⊢
  have HIR := Lib.hid (HM4.out.irow hLl.out).2
  have HX : Hid (∀ wx : World, Below wz.heap.size wz wx → (wx.cell? ⟨g1, 0, none⟩ = some (.int .i64 n) ∧ wx.cell? ⟨g1, 1, none⟩ = some (.int .i64 v) ∧ wx.cell? ⟨g1, 2, none⟩ = some (.int .i64 lo) ∧ wx.cell? ⟨g1, 3, none⟩ = some (.slice A3 (m + 1) c3) ∧ wx.cell? ⟨g1, 4, none⟩ = some (.slice B k cB))) := Lib.hid fun wx hb => by
    have b1 := BL.out.below hb BL.out.lt
    exact ⟨b1.cell 0, b1.cell 1, b1.cell 2, b1.cell 3, b1.cell 4⟩
  have HXX : Hid (∀ wx : World, Below wz.heap.size wz wx → wx.cell? ⟨g1 + 1, 0, none⟩ = some (.int .i64 x.kind) ∧ wx.cell? ⟨g1 + 1, 3, none⟩ = some (.int .i64 x.seq)) := Lib.hid fun wx hb => by
    have b1 := BX.out.below hb BX.out.lt
    exact ⟨b1.cell 0, b1.cell 3⟩
  have HZ : Hid (∀ wx : World, Below wz.heap.size wz wx → (wx.cell? ⟨g1 + 1 + 1, 0, none⟩ = some (.int .i64 0) ∧ wx.cell? ⟨g1 + 1 + 1, 1, none⟩ = some (.int .i64 0) ∧ wx.cell? ⟨g1 + 1 + 1, 2, none⟩ = some (.int .i64 0) ∧ wx.cell? ⟨g1 + 1 + 1, 3, none⟩ = some (.slice none 0 0) ∧ wx.cell? ⟨g1 + 1 + 1, 4, none⟩ = some (.slice none 0 0)) ∧ wx.frozen? ⟨g1 + 1 + 1, 0, none⟩ = false ∧ wx.frozen? ⟨g1 + 1 + 1, 1, none⟩ = false ∧ wx.frozen? ⟨g1 + 1 + 1, 2, none⟩ = false ∧ wx.frozen? ⟨g1 + 1 + 1, 3, none⟩ = false ∧ wx.frozen? ⟨g1 + 1 + 1, 4, none⟩ = false) := Lib.hid fun wx hb => by
    have b1 := BR.out.below hb BR.out.lt
    exact ⟨⟨b1.cell 0, b1.cell 1, b1.cell 2, b1.cell 3, b1.cell 4⟩, b1.frozen 0, b1.frozen 1, b1.frozen 2, b1.frozen 3, b1.frozen 4⟩
  have HAz := Lib.hid (HAg.out wz A3 c3 HIR.out)
  clear HAg
  obtain ⟨c0, c1, c2, c3', c4⟩ := HX.out wz (Below.refl _ _)
  obtain ⟨x0, x3⟩ := HXX.out wz (Below.refl _ _)
  go_upto_region 5 with (first
    | (go_at_call 57; (refine (HAz.out).mono ?_); rintro e w5 ⟨A5, c5, rfl, h5, h6⟩; have HM5 := Lib.hid h5; have HB5 := Lib.hid h6; clear h5 h6))
  clear c0 c1 c2 c3' c4 x0 x3 HAz
  obtain ⟨ln, hln⟩ : ∃ ln, Hid (ag.length = ln) := ⟨_, Lib.hid rfl⟩
  have HS : Hid (x.kind = 5 ∨ (ln : Int) < (q : Int)) := Lib.hid (by rw [← hln.out, ← hag.out, ← hq.out, ← hnn.out]; exact hs)
  rw [hln.out]
  clear hs
  obtain ⟨c0, c1, c2, c3', c4⟩ := HX.out w5 HB5.out
  obtain ⟨x0, x3⟩ := HXX.out w5 HB5.out
  have hs := HS.out
  by_cases a : x.kind = 5
  · have aB : (x.kind == 5) = true := by simpa using a
    clear hs HQ HPr
    rw [a] at x0
    obtain ⟨c0, c1, c2, c3', c4⟩ := HX.out w5 HB5.out
    obtain ⟨⟨z0, z1, z2, z3, z4⟩, f0, f1, f2, f3, f4⟩ := HZ.out w5 HB5.out
    go_wp2
    (try simp only [Exit.inBlock, Exit.then])
    refine bodyPost_ret (by simp [results, Try.results53, asAddr, go_sem, z0, z1, z2, z3, z4]; rfl) rfl ?_
    have hbx := below_next hbw.out HB5.out
    have hbz := below_five (B := w.heap.size) (g := g1 + 1 + 1) hbx (by rw [HG.out]; exact Nat.le_add_right _ 2) (.int .i64 n) (.int .i64 v) (.int .i64 lo) (.slice A3 (m + 1) c3) (.slice B k cB)
    have hmz := ((HM4.out.below HB5.out).five (g := g1 + 1 + 1) hgy.out (.int .i64 n) (.int .i64 v) (.int .i64 lo) (.slice A3 (m + 1) c3) (.slice B k cB))
    exact takenTo E.out hLl.out hkk.out hv.out hl.out HL0.out hbz fun W' hs hb hp => ⟨((hmz.carry hs fun b h1 h2 => hb b (by have := hgy.out; have := HG.out; omega) h2).irow hLl.out).2, hp.2⟩
  · have aB : (x.kind == 5) = false := by simpa using a
    have hlq : (ln : Int) < (q : Int) := hs.resolve_left a
    clear hs HPr
    go_upto_region 6 with (first
      | (go_at_call 56; (with_reducible refine (HQ.out _ _ _).mono ?_); rintro e w6 ⟨rfl, hb6⟩; have HB6 := Lib.hid (below_next HB5.out hb6); clear hb6))
    clear c0 c1 c2 c3' c4 x0 x3
    obtain ⟨c0, c1, c2, c3', c4⟩ := HX.out w6 HB6.out
    obtain ⟨⟨z0, z1, z2, z3, z4⟩, f0, f1, f2, f3, f4⟩ := HZ.out w6 HB6.out
    go_wp2
    (try simp only [Exit.inBlock, Exit.then])
    refine bodyPost_ret (by simp [results, Try.results53, asAddr, go_sem, z0, z1, z2, z3, z4]; rfl) rfl ?_
    have hbx := below_next hbw.out HB6.out
    have hbz := below_five (B := w.heap.size) (g := g1 + 1 + 1) hbx (by rw [HG.out]; exact Nat.le_add_right _ 2) (.int .i64 n) (.int .i64 v) (.int .i64 lo) (.slice A3 (m + 1) c3) (.slice B k cB)
    have hmz := ((HM4.out.below HB6.out).five (g := g1 + 1 + 1) hgy.out (.int .i64 n) (.int .i64 v) (.int .i64 lo) (.slice A3 (m + 1) c3) (.slice B k cB))
    exact takenTo E.out hLl.out hkk.out hv.out hl.out HL0.out hbz fun W' hs hb hp => ⟨((hmz.carry hs fun b h1 h2 => hb b (by have := hgy.out; have := HG.out; omega) h2).irow hLl.out).2, hp.2⟩
end Go.Proofs.Ytedndjbhgbdpoaa
