/- The reference's taken where something is prepared (printed by gentk.py). -/
import Derived.Test.YtedndjbhgbdpoaaRlZ
import Derived.Test.YtedndjbhgbdpoaaStab
namespace Go.Proofs.Ytedndjbhgbdpoaa
open Go.RowKit
set_option linter.unusedSimpArgs false
set_option linter.unusedVariables false
set_option maxHeartbeats 16000000 in
set_option maxRecDepth 20000 in
theorem taken_long (w : World) (A B : Option Addr) (cA cB : Nat) (y : Rl) (h : IRow w A y.L) (L0 : List (Kb × Value)) (hk : KVRow w B L0) (hL0 : L0.map Prod.fst = y.kept) (hlo : 0 ≤ y.low ∧ y.low ≤ 1073741824) (hlen : y.L.length ≤ 900) (hn : y.n = 4 ∨ y.n = 7 ∨ y.n = 10 ∨ y.n = 13) (x : It) (hk5 : x.kind ≠ 5) (hs : (y.more x).quorum ≤ (((y.more x).agree 3 x.seq).length : Int)) (hkl : y.kept.length ≤ 900) :
    Calls Try.prog 53 #[.agg #[.int .i64 y.n, .int .i64 y.view, .int .i64 y.low, .slice A y.L.length cA, .slice B y.kept.length cB], .agg #[.int .i64 x.kind, .int .i64 x.frm, .int .i64 x.view, .int .i64 x.seq, .string x.digest, .string x.batch, .int .i64 x.m.frm, .string x.m.body, .string x.m.sig]] w (TakenTo w A B y.L L0 y.n (y.taken x)) := by
  have E0 : Hid (y.taken x = if y.kept.any (fun k => decide (k.seq = x.seq) && decide (k.view = y.view)) then y.more x
    else { y.more x with kept := Rl.slip (y.kept.filter fun k => decide (k.seq ≠ x.seq)) ⟨11, y.view, x.seq, (((y.more x).proposal x.seq).getD It.none).digest, (((y.more x).proposal x.seq).getD It.none).batch, ((y.more x).agree 3 x.seq).take (y.more x).quorum.toNat⟩ }) := Lib.hid (by unfold Rl.taken; exact if_neg (by rintro (h | h); exact hk5 h; exact absurd hs (Int.not_le.2 h)))
  have HKV := Lib.hid hk
  have hlen : y.L.length ≤ 999 := by omega
  have hkL : Hid (L0.length = y.kept.length) := Lib.hid (by rw [← hL0, List.length_map])
  have HL0 := Lib.hid hL0
  have HSrc : Hid (∀ wx, Below w.heap.size w wx → Src Try.prog 9 63 (.slice A y.L.length cA) y.L.length (icells y.L) wx) := Lib.hid fun wx hb => (h.below hb).src cA
  have HAg : Hid (∀ wx A3 c3, IRow wx A3 (y.L ++ [x]) → Calls Try.prog 57 #[.agg #[.int .i64 y.n, .int .i64 y.view, .int .i64 y.low, .slice A3 (y.L.length + 1) c3, .slice B y.kept.length cB], .int .i64 3, .int .i64 x.seq] wx (TellsList wx ((y.more x).agree 3 x.seq))) := Lib.hid fun wx A3 c3 hr => by
    have := ragree_calls wx A3 B c3 y.kept.length cB (y.more x) hr hlo (by show (y.L ++ [x]).length ≤ 1000; rw [List.length_append]; simpa using hlen) hn 3 x.seq
    have e : (y.more x).L.length = y.L.length + 1 := by show (y.L ++ [x]).length = _; rw [List.length_append]; rfl
    rw [e] at this
    exact this
  have HPr : Hid (∀ wx A3 c3, IRow wx A3 (y.L ++ [x]) → Calls Try.prog 52 #[.agg #[.int .i64 y.n, .int .i64 y.view, .int .i64 y.low, .slice A3 (y.L.length + 1) c3, .slice B y.kept.length cB], .int .i64 x.seq] wx (TellsItem wx ((y.more x).proposal x.seq))) := Lib.hid fun wx A3 c3 hr => by
    have := rproposal_calls wx A3 B c3 y.kept.length cB (y.more x) hr hlo (by show (y.L ++ [x]).length ≤ 1000; rw [List.length_append]; simpa using hlen) x.seq
    have e : (y.more x).L.length = y.L.length + 1 := by show (y.L ++ [x]).length = _; rw [List.length_append]; rfl
    rw [e] at this
    exact this
  have HQ : Hid (∀ wx A3 c3, Calls Try.prog 56 #[.agg #[.int .i64 y.n, .int .i64 y.view, .int .i64 y.low, .slice A3 (y.L.length + 1) c3, .slice B y.kept.length cB]] wx fun e w' => e = .returned (.int .i64 (y.n - (y.n - 1) / 3)) ∧ Below wx.heap.size wx w') := Lib.hid fun wx A3 c3 => rquorum_calls wx y.n y.view y.low A3 B (y.L.length + 1) c3 y.kept.length cB hn
  have hLl : Hid ((y.L ++ [x]).length = y.L.length + 1) := Lib.hid (by rw [List.length_append]; rfl)
  obtain ⟨m, hm⟩ : ∃ m, Hid (y.L.length = m) := ⟨_, Lib.hid rfl⟩
  obtain ⟨k, hkk⟩ : ∃ k, Hid (y.kept.length = k) := ⟨_, Lib.hid rfl⟩
  obtain ⟨n, hnn⟩ : ∃ n, Hid (y.n = n) := ⟨_, Lib.hid rfl⟩
  obtain ⟨v, hv⟩ : ∃ v, Hid (y.view = v) := ⟨_, Lib.hid rfl⟩
  obtain ⟨lo, hl⟩ : ∃ lo, Hid (y.low = lo) := ⟨_, Lib.hid rfl⟩
  obtain ⟨ag, hag⟩ : ∃ ag, Hid ((y.more x).agree 3 x.seq = ag) := ⟨_, Lib.hid rfl⟩
  rw [hm.out] at HSrc HAg HPr HQ hlen hLl
  rw [hkk.out] at HAg HPr HQ
  rw [hnn.out] at HAg HPr HQ hn
  rw [hv.out] at HAg HPr HQ
  rw [hl.out] at HAg HPr HQ
  rw [hag.out] at HAg
  rw [hm.out, hkk.out, hnn.out, hv.out, hl.out]
  obtain ⟨q, hq⟩ : ∃ q : Nat, Hid (n - (n - 1) / 3 = (q : Int)) := ⟨(n - (n - 1) / 3).toNat, Lib.hid (by omega)⟩
  rw [hq.out] at HQ
  have hq1 : 1 ≤ q := by have := hq.out; omega
  have hq9 : q ≤ 9 := by have := hq.out; omega
  obtain ⟨i1, hi1, hy0, hy1, hy2⟩ := info_parts info_item
  have HI1 := Lib.hid hi1
  have HY0 := Lib.hid hy0
  have HY1 := Lib.hid hy1
  have HY2 := Lib.hid hy2
  clear hi1 hy0 hy1 hy2 h hk hn hlo hL0
  have hb0 : Hid (Below w.heap.size w (((w.alloc (.cells #[.int .i64 n, .int .i64 v, .int .i64 lo, .slice A m cA, .slice B k cB] 65)).alloc (.cells #[.int .i64 x.kind, .int .i64 x.frm, .int .i64 x.view, .int .i64 x.seq, .string x.digest, .string x.batch, .int .i64 x.m.frm, .string x.m.body, .string x.m.sig] 106)).alloc (.cells #[.int .i64 0, .int .i64 0, .int .i64 0, .slice none 0 0, .slice none 0 0] 65))) := Lib.hid ((((Below.refl _ _).alloc (Nat.le_refl _) _).alloc (by simp) _).alloc (by simp; omega) _)
  have B1 : Hid (Blk (((w.alloc (.cells #[.int .i64 n, .int .i64 v, .int .i64 lo, .slice A m cA, .slice B k cB] 65)).alloc (.cells #[.int .i64 x.kind, .int .i64 x.frm, .int .i64 x.view, .int .i64 x.seq, .string x.digest, .string x.batch, .int .i64 x.m.frm, .string x.m.body, .string x.m.sig] 106)).alloc (.cells #[.int .i64 0, .int .i64 0, .int .i64 0, .slice none 0 0, .slice none 0 0] 65)) w.heap.size 65 #[.int .i64 n, .int .i64 v, .int .i64 lo, .slice A m cA, .slice B k cB]) := Lib.hid (((Blk.new _ _ _).alloc _).alloc _)
  have B2 : Hid (Blk (((w.alloc (.cells #[.int .i64 n, .int .i64 v, .int .i64 lo, .slice A m cA, .slice B k cB] 65)).alloc (.cells #[.int .i64 x.kind, .int .i64 x.frm, .int .i64 x.view, .int .i64 x.seq, .string x.digest, .string x.batch, .int .i64 x.m.frm, .string x.m.body, .string x.m.sig] 106)).alloc (.cells #[.int .i64 0, .int .i64 0, .int .i64 0, .slice none 0 0, .slice none 0 0] 65)) (w.heap.size + 1) 106 #[.int .i64 x.kind, .int .i64 x.frm, .int .i64 x.view, .int .i64 x.seq, .string x.digest, .string x.batch, .int .i64 x.m.frm, .string x.m.body, .string x.m.sig]) := Lib.hid (by have := (Blk.new (w.alloc (.cells #[.int .i64 n, .int .i64 v, .int .i64 lo, .slice A m cA, .slice B k cB] 65)) 106 #[.int .i64 x.kind, .int .i64 x.frm, .int .i64 x.view, .int .i64 x.seq, .string x.digest, .string x.batch, .int .i64 x.m.frm, .string x.m.body, .string x.m.sig]).alloc (.cells #[.int .i64 0, .int .i64 0, .int .i64 0, .slice none 0 0, .slice none 0 0] 65); simpa using this)
  have B3 : Hid (Blk (((w.alloc (.cells #[.int .i64 n, .int .i64 v, .int .i64 lo, .slice A m cA, .slice B k cB] 65)).alloc (.cells #[.int .i64 x.kind, .int .i64 x.frm, .int .i64 x.view, .int .i64 x.seq, .string x.digest, .string x.batch, .int .i64 x.m.frm, .string x.m.body, .string x.m.sig] 106)).alloc (.cells #[.int .i64 0, .int .i64 0, .int .i64 0, .slice none 0 0, .slice none 0 0] 65)) (w.heap.size + 1 + 1) 65 #[.int .i64 0, .int .i64 0, .int .i64 0, .slice none 0 0, .slice none 0 0]) := Lib.hid (by have := Blk.new ((w.alloc (.cells #[.int .i64 n, .int .i64 v, .int .i64 lo, .slice A m cA, .slice B k cB] 65)).alloc (.cells #[.int .i64 x.kind, .int .i64 x.frm, .int .i64 x.view, .int .i64 x.seq, .string x.digest, .string x.batch, .int .i64 x.m.frm, .string x.m.body, .string x.m.sig] 106)) 65 #[.int .i64 0, .int .i64 0, .int .i64 0, .slice none 0 0, .slice none 0 0]; simpa using this)
  go_enter Try.func53, Try.ntmps53
  go_upto_region 1 with (fail)
  obtain ⟨g1, hg1⟩ : ∃ g1, w.heap.size = g1 := ⟨_, rfl⟩
  have HG := Lib.hid hg1
  rw [hg1] at B1 B2 B3 ⊢
  clear hg1
  generalize World.alloc (World.alloc (World.alloc w _) _) _ = wy at hb0 B1 B2 B3 ⊢
  have hgy : Hid (g1 + 1 + 1 < wy.heap.size) := Lib.hid B3.out.lt
  have d3 : wy.cell? ⟨g1, 3, none⟩ = some (.slice A m cA) := B1.out.cell 3
  have HSy := Lib.hid (HSrc.out wy hb0.out)
  clear HSrc
  go_upto_region 3 with (first
    | (refine wpList_append_mine rfl (.tmp 14) (.tmp 16) 63 63 rfl 106 i1 (.agg #[.int .i64 0, .int .i64 0, .int .i64 0, .int .i64 0, .string noText, .string noText, .int .i64 0, .string noText, .string noText]) 104 Try.underlying63 HI1.out HY0.out HY1.out HY2.out rfl (by decide) rfl (Mine.empty wy _ 9 _) (Below.refl _ _) _ m (icells y.L) rfl HSy.out (by unfold maxLen; omega) (by omega) ?_; intro A2 c2 w2 hm2 hb2; have HM2 := Lib.hid hm2; have HB2 := Lib.hid hb2; clear hm2 hb2))
  rw [Nat.zero_add, List.nil_append] at HM2
  clear d3 HSy
  obtain ⟨x0, x1, x2, x3, x4, x5, x6, x7, x8⟩ : w2.cell? ⟨g1 + 1, 0, none⟩ = some (.int .i64 x.kind) ∧ w2.cell? ⟨g1 + 1, 1, none⟩ = some (.int .i64 x.frm) ∧ w2.cell? ⟨g1 + 1, 2, none⟩ = some (.int .i64 x.view) ∧ w2.cell? ⟨g1 + 1, 3, none⟩ = some (.int .i64 x.seq) ∧ w2.cell? ⟨g1 + 1, 4, none⟩ = some (.string x.digest) ∧ w2.cell? ⟨g1 + 1, 5, none⟩ = some (.string x.batch) ∧ w2.cell? ⟨g1 + 1, 6, none⟩ = some (.int .i64 x.m.frm) ∧ w2.cell? ⟨g1 + 1, 7, none⟩ = some (.string x.m.body) ∧ w2.cell? ⟨g1 + 1, 8, none⟩ = some (.string x.m.sig) := by
    have b2 := B2.out.below HB2.out B2.out.lt
    exact ⟨b2.cell 0, b2.cell 1, b2.cell 2, b2.cell 3, b2.cell 4, b2.cell 5, b2.cell 6, b2.cell 7, b2.cell 8⟩
  go_upto_region 4 with (first
    | (refine wpList_append_mine rfl (.tmp 18) (.tmp 20) 63 63 rfl 106 i1 (.agg #[.int .i64 0, .int .i64 0, .int .i64 0, .int .i64 0, .string noText, .string noText, .int .i64 0, .string noText, .string noText]) 104 Try.underlying63 HI1.out HY0.out HY1.out HY2.out rfl (by decide) rfl (HM2.out.alloc _) (HB2.out.alloc HB2.out.size _) _ 1 [.int .i64 x.kind, .int .i64 x.frm, .int .i64 x.view, .int .i64 x.seq, .string x.digest, .string x.batch, .int .i64 x.m.frm, .string x.m.body, .string x.m.sig] rfl (src_new Try.underlying63 _ _ _ 1 1 rfl (by simp [Value.oneCell'])) (by unfold maxLen; omega) (by omega) ?_; intro A3 c3 w3 hm3 hb3; have HM3 := Lib.hid hm3; have HB3 := Lib.hid hb3; have s3 : w3.cell? ⟨g1, 3, none⟩ = some (.slice A m cA) := (B1.out.below hb3 B1.out.lt).cell 3; have t3 := (B1.out.below hb3 B1.out.lt).frozen 3; clear hm3 hb3))
  clear x0 x1 x2 x3 x4 x5 x6 x7 x8 s3 t3
  have HM4 : Hid (Mine wy (w3.setCell ⟨g1, 3, none⟩ (.slice A3 (m + 1) c3)) 9 (.slice A3 (m + 1) c3) (m + 1) (icells (y.L ++ [x]))) := Lib.hid (by
    have e : icells (y.L ++ [x]) = icells y.L ++ [.int .i64 x.kind, .int .i64 x.frm, .int .i64 x.view, .int .i64 x.seq, .string x.digest, .string x.batch, .int .i64 x.m.frm, .string x.m.body, .string x.m.sig] := icells_append _ _
    rw [e]
    exact HM3.out.cell1 (by have := hgy.out; omega) _)
  have BL : Hid (Blk (w3.setCell ⟨g1, 3, none⟩ (.slice A3 (m + 1) c3)) g1 65 #[.int .i64 n, .int .i64 v, .int .i64 lo, .slice A3 (m + 1) c3, .slice B k cB]) := Lib.hid ((B1.out.below HB3.out B1.out.lt).set_ 3 _)
  have BX : Hid (Blk (w3.setCell ⟨g1, 3, none⟩ (.slice A3 (m + 1) c3)) (g1 + 1) 106 #[.int .i64 x.kind, .int .i64 x.frm, .int .i64 x.view, .int .i64 x.seq, .string x.digest, .string x.batch, .int .i64 x.m.frm, .string x.m.body, .string x.m.sig]) := Lib.hid ((B2.out.below HB3.out B2.out.lt).far (by omega) _)
  have BR : Hid (Blk (w3.setCell ⟨g1, 3, none⟩ (.slice A3 (m + 1) c3)) (g1 + 1 + 1) 65 #[.int .i64 0, .int .i64 0, .int .i64 0, .slice none 0 0, .slice none 0 0]) := Lib.hid ((B3.out.below HB3.out B3.out.lt).far (by omega) _)
  have hbw : Hid (Below w.heap.size w (w3.setCell ⟨g1, 3, none⟩ (.slice A3 (m + 1) c3))) := Lib.hid ((below_next hb0.out HB3.out).setCell (by rw [HG.out]; exact Nat.le_refl _) _)
  have hsz : Hid (wy.heap.size ≤ (w3.setCell ⟨g1, 3, none⟩ (.slice A3 (m + 1) c3)).heap.size) := Lib.hid (by simpa using HB3.out.size)
  clear B1 B2 B3 HB3 HM3 HM2 HB2 hb0
  generalize World.setCell w3 _ _ = wz at HM4 BL BX BR hbw hsz ⊢
  have HIR := Lib.hid (HM4.out.irow hLl.out).2
  have HX : Hid (∀ wx : World, Below wz.heap.size wz wx → (wx.cell? ⟨g1, 0, none⟩ = some (.int .i64 n) ∧ wx.cell? ⟨g1, 1, none⟩ = some (.int .i64 v) ∧ wx.cell? ⟨g1, 2, none⟩ = some (.int .i64 lo) ∧ wx.cell? ⟨g1, 3, none⟩ = some (.slice A3 (m + 1) c3) ∧ wx.cell? ⟨g1, 4, none⟩ = some (.slice B k cB))) := Lib.hid fun wx hb => by
    have b1 := BL.out.below hb BL.out.lt
    exact ⟨b1.cell 0, b1.cell 1, b1.cell 2, b1.cell 3, b1.cell 4⟩
  have HXX : Hid (∀ wx : World, Below wz.heap.size wz wx → wx.cell? ⟨g1 + 1, 0, none⟩ = some (.int .i64 x.kind) ∧ wx.cell? ⟨g1 + 1, 3, none⟩ = some (.int .i64 x.seq)) := Lib.hid fun wx hb => by
    have b1 := BX.out.below hb BX.out.lt
    exact ⟨b1.cell 0, b1.cell 3⟩
  have HZ : Hid (∀ wx : World, Below wz.heap.size wz wx → (wx.cell? ⟨g1 + 1 + 1, 0, none⟩ = some (.int .i64 0) ∧ wx.cell? ⟨g1 + 1 + 1, 1, none⟩ = some (.int .i64 0) ∧ wx.cell? ⟨g1 + 1 + 1, 2, none⟩ = some (.int .i64 0) ∧ wx.cell? ⟨g1 + 1 + 1, 3, none⟩ = some (.slice none 0 0) ∧ wx.cell? ⟨g1 + 1 + 1, 4, none⟩ = some (.slice none 0 0)) ∧ wx.frozen? ⟨g1 + 1 + 1, 0, none⟩ = false ∧ wx.frozen? ⟨g1 + 1 + 1, 1, none⟩ = false ∧ wx.frozen? ⟨g1 + 1 + 1, 2, none⟩ = false ∧ wx.frozen? ⟨g1 + 1 + 1, 3, none⟩ = false ∧ wx.frozen? ⟨g1 + 1 + 1, 4, none⟩ = false) := Lib.hid fun wx hb => by
    have b1 := BR.out.below hb BR.out.lt
    exact ⟨⟨b1.cell 0, b1.cell 1, b1.cell 2, b1.cell 3, b1.cell 4⟩, b1.frozen 0, b1.frozen 1, b1.frozen 2, b1.frozen 3, b1.frozen 4⟩
  have HAz := Lib.hid (HAg.out wz A3 c3 HIR.out)
  clear HAg
  obtain ⟨c0, c1, c2, c3', c4⟩ := HX.out wz (Below.refl _ _)
  obtain ⟨x0, x3⟩ := HXX.out wz (Below.refl _ _)
  go_upto_region 5 with (first
    | (go_at_call 57; (refine (HAz.out).mono ?_); rintro e w5 ⟨A5, c5, rfl, h5, h6⟩; have HM5 := Lib.hid h5; have HB5 := Lib.hid h6; clear h5 h6))
  clear c0 c1 c2 c3' c4 x0 x3 HAz
  rw [hkk.out] at hkL hkl
  obtain ⟨ln, hln⟩ : ∃ ln, Hid (ag.length = ln) := ⟨_, Lib.hid rfl⟩
  have hqe : Hid ((y.more x).quorum = (q : Int)) := Lib.hid (by rw [← hq.out, ← hnn.out]; rfl)
  have hlq : q ≤ ln := by have := hs; rw [hqe.out, hag.out, hln.out] at this; omega
  have hlnq : ¬ (ln : Int) < (q : Int) := by omega
  rw [hln.out] at HM5 ⊢
  clear hs
  obtain ⟨b5, o5, hA5, hbw5, hbl5, hmc5, hrow5⟩ := mine_list HM5.out (by omega)
  subst hA5
  have HR5 := Lib.hid (Mine.srow HM5.out hln.out hlq).2
  clear hrow5 hbw5 hbl5
  have hc5 : (q : Int) ≤ (c5 : Int) := by omega
  obtain ⟨c0, c1, c2, c3', c4⟩ := HX.out w5 HB5.out
  obtain ⟨x0, x3⟩ := HXX.out w5 HB5.out
  have aB : (x.kind == 5) = false := by simpa using hk5
  go_upto_region 7 with (first
    | (go_at_call 56; (with_reducible refine (HQ.out _ _ _).mono ?_); rintro e w6 ⟨rfl, hb6⟩; have HB6 := Lib.hid (below_next HB5.out hb6); have HB56 := Lib.hid hb6; clear hb6))
  clear c0 c1 c2 c3' c4 x0 x3 aB hlnq
  obtain ⟨c0, c1, c2, c3', c4⟩ := HX.out w6 HB6.out
  obtain ⟨x0, x3⟩ := HXX.out w6 HB6.out
  have HPz : Hid (Calls Try.prog 52 #[.agg #[.int .i64 n, .int .i64 v, .int .i64 lo, .slice A3 (m + 1) c3, .slice B k cB], .int .i64 x.seq] w6 fun e w' => e = .returned (.tuple #[.agg #[.int .i64 (((y.more x).proposal x.seq).getD It.none).kind, .int .i64 (((y.more x).proposal x.seq).getD It.none).frm, .int .i64 (((y.more x).proposal x.seq).getD It.none).view, .int .i64 (((y.more x).proposal x.seq).getD It.none).seq, .string (((y.more x).proposal x.seq).getD It.none).digest, .string (((y.more x).proposal x.seq).getD It.none).batch, .int .i64 (((y.more x).proposal x.seq).getD It.none).m.frm, .string (((y.more x).proposal x.seq).getD It.none).m.body, .string (((y.more x).proposal x.seq).getD It.none).m.sig], .bool ((y.more x).proposal x.seq).isSome]) ∧ Below w6.heap.size w6 w') := Lib.hid (HPr.out w6 A3 c3 (HIR.out.below HB6.out))
  obtain ⟨p, hp⟩ : ∃ p, Hid (((y.more x).proposal x.seq).getD It.none = p) := ⟨_, Lib.hid rfl⟩
  rw [hp.out] at HPz
  generalize ((y.more x).proposal x.seq).isSome = ok at HPz
  clear HPr
  go_upto_region 8 with (first
    | (go_at_call 52; (with_reducible refine (HPz.out).mono ?_); rintro e w7 ⟨rfl, hb7⟩; have HB7 := Lib.hid (below_next HB6.out hb7); have HB57 := Lib.hid (below_next HB56.out hb7); clear hb7))
  clear c0 c1 c2 c3' c4 x0 x3 HPz
  have hb8 : Hid (Below wz.heap.size wz (w7.alloc (.cells #[.int .i64 p.kind, .int .i64 p.frm, .int .i64 p.view, .int .i64 p.seq, .string p.digest, .string p.batch, .int .i64 p.m.frm, .string p.m.body, .string p.m.sig] 106))) := Lib.hid (HB7.out.alloc HB7.out.size _)
  have hb58 : Hid (Below w5.heap.size w5 (w7.alloc (.cells #[.int .i64 p.kind, .int .i64 p.frm, .int .i64 p.view, .int .i64 p.seq, .string p.digest, .string p.batch, .int .i64 p.m.frm, .string p.m.body, .string p.m.sig] 106))) := Lib.hid (HB57.out.alloc HB57.out.size _)
  have BP : Hid (Blk (w7.alloc (.cells #[.int .i64 p.kind, .int .i64 p.frm, .int .i64 p.view, .int .i64 p.seq, .string p.digest, .string p.batch, .int .i64 p.m.frm, .string p.m.body, .string p.m.sig] 106)) w7.heap.size 106 #[.int .i64 p.kind, .int .i64 p.frm, .int .i64 p.view, .int .i64 p.seq, .string p.digest, .string p.batch, .int .i64 p.m.frm, .string p.m.body, .string p.m.sig]) := Lib.hid (Blk.new _ _ _)
  obtain ⟨gp, hgp⟩ : ∃ gp, w7.heap.size = gp := ⟨_, rfl⟩
  rw [hgp] at BP ⊢
  clear hgp HB7 HB57
  generalize World.alloc w7 _ = wp at hb8 hb58 BP ⊢
  have HPP : Hid (∀ wx : World, Below wp.heap.size wp wx → wx.cell? ⟨gp, 4, none⟩ = some (.string p.digest) ∧ wx.cell? ⟨gp, 5, none⟩ = some (.string p.batch)) := Lib.hid fun wx hb => by
    have b1 := BP.out.below hb BP.out.lt
    exact ⟨b1.cell 4, b1.cell 5⟩
  have hbwp := Lib.hid (below_next hbw.out hb8.out)
  obtain ⟨i2, hi2, hz0, hz1, hz2⟩ := info_parts info_body
  have HI2 := Lib.hid hi2
  have HZ0 := Lib.hid hz0
  have HZ1 := Lib.hid hz1
  have HZ2 := Lib.hid hz2
  clear hi2 hz0 hz1 hz2
  have hx5 := Lib.hid hk5
  clear hk5
  go_wp2
  go_loopg [9, 10] (k + 1) (fun gk s9 s10 wr => ∃ i A' c', gk = k + 1 - i ∧ i ≤ k ∧ s10 = .int .i64 (i : Int) ∧ s9 = .slice A' (Rl.others (L0.take i) x.seq).length c' ∧ Hid (Mine wp wr 8 (.slice A' (Rl.others (L0.take i) x.seq).length c') (Rl.others (L0.take i) x.seq).length (kvcells (Rl.others (L0.take i) x.seq))) ∧ Hid (A' = none ∧ c' = 0 ∨ ∃ b o, A' = some ⟨b, o, none⟩) ∧ Hid (∀ j, j < i → ¬ ((L0.getD j kv0).1.seq = x.seq ∧ (L0.getD j kv0).1.view = v)) ∧ Hid (Below wp.heap.size wp wr))
  case atStart => exact ⟨0, none, 0, rfl, Nat.zero_le _, rfl, rfl, Lib.hid (Mine.empty _ _ _ _), Lib.hid (.inl ⟨rfl, rfl⟩), Lib.hid (fun j hj => by omega), Lib.hid (Below.refl _ _)⟩
  case round =>
    obtain ⟨i, A', c', rfl, hi, rfl, rfl, hm9, hA9, hno, hb⟩ := hrel
    have i0 : (0 : Int) ≤ (i : Int) := by omega
    have hbz := Lib.hid (below_next hb8.out hb.out)
    obtain ⟨c0, c1, c2, c3', c4⟩ := HX.out wr hbz.out
    obtain ⟨-, x3⟩ := HXX.out wr hbz.out
    have hle := Rl.others_le L0 x.seq i
    obtain ⟨ml, hml⟩ : ∃ ml, Hid ((Rl.others (L0.take i) x.seq).length = ml) := ⟨_, Lib.hid rfl⟩
    rw [hml.out] at hm9 hle ⊢
    by_cases hlt : i < k
    · have hltI : (i : Int) < (k : Int) := by omega
      obtain ⟨bb, bo, rfl, hcc⟩ := HKV.out.cells (i := i) (by rw [hkL.out]; exact hlt)
      have hos := Lib.hid (Rl.others_snoc L0 x.seq (i := i) (by rw [hkL.out]; exact hlt))
      have hzm : Hid (L0.getD i kv0 ∈ L0) := Lib.hid (by rw [List.getD_eq_getElem?_getD, List.getElem?_eq_getElem (by rw [hkL.out]; exact hlt)]; exact List.getElem_mem _)
      obtain ⟨z, hz⟩ : ∃ z, Hid (L0.getD i kv0 = z) := ⟨_, Lib.hid rfl⟩
      rw [hz.out] at hcc hos hzm
      obtain ⟨A7, c7, h7, -⟩ := HKV.out.2 z hzm.out
      have HC : Hid (∀ wx, Below w.heap.size w wx → wx.cell? ⟨bb, bo + i * 8, none⟩ = some (.int .i64 z.1.kind) ∧ wx.cell? ⟨bb, bo + i * 8 + 1, none⟩ = some (.int .i64 z.1.view) ∧ wx.cell? ⟨bb, bo + i * 8 + 2, none⟩ = some (.int .i64 z.1.seq) ∧ wx.cell? ⟨bb, bo + i * 8 + 3, none⟩ = some (.int .i64 0) ∧ wx.cell? ⟨bb, bo + i * 8 + 4, none⟩ = some (.int .i64 0) ∧ wx.cell? ⟨bb, bo + i * 8 + 5, none⟩ = some (.string z.1.digest) ∧ wx.cell? ⟨bb, bo + i * 8 + 6, none⟩ = some (.string z.1.text) ∧ wx.cell? ⟨bb, bo + i * 8 + 7, none⟩ = some (.slice A7 z.1.list.length c7)) := Lib.hid fun wx hx => by
        have h8 := hcc wx hx
        unfold kcell at h8
        rw [h7] at h8
        exact ⟨h8 0 (by omega), h8 1 (by omega), h8 2 (by omega), h8 3 (by omega), h8 4 (by omega), h8 5 (by omega), h8 6 (by omega), h8 7 (by omega)⟩
      have H7 := Lib.hid h7
      clear hcc h7
      obtain ⟨-, z1, z2, -, -, -, -, -⟩ := HC.out wr (below_next hbwp.out hb.out)
      by_cases s1 : z.1.seq = x.seq
      · by_cases s2 : z.1.view = v
        · have E : Hid (y.taken x = y.more x) := Lib.hid (by
            rw [E0.out]
            refine if_pos ?_
            rw [List.any_eq_true]
            refine ⟨z.1, ?_, by simp [s1, s2, hv.out]⟩
            rw [← HL0.out]
            exact List.mem_map_of_mem hzm.out)
          rw [s1] at z2
          rw [s2] at z1
          go_upto_region 12 with (fail)
          go_quiet (fail)
          generalize hwy : World.drewN _ _ = wq
          have HBq : Hid (Below wz.heap.size wz wq) := Lib.hid (by rw [← hwy]; exact below_draw hbz.out _)
          clear hwy c0 c1 c2 c3' c4 x3 z1 z2
          obtain ⟨c0, c1, c2, c3', c4⟩ := HX.out wq HBq.out
          obtain ⟨⟨z0, z1, z2, z3, z4⟩, f0, f1, f2, f3, f4⟩ := HZ.out wq HBq.out
          go_wp2
          (try simp only [Exit.inBlock, Exit.then])
          refine bodyPost_ret (by simp [results, Try.results53, asAddr, go_sem, z0, z1, z2, z3, z4]; rfl) rfl ?_
          have hbx := below_next hbw.out HBq.out
          have hbz := below_five (B := w.heap.size) (g := g1 + 1 + 1) hbx (by rw [HG.out]; exact Nat.le_add_right _ 2) (.int .i64 n) (.int .i64 v) (.int .i64 lo) (.slice A3 (m + 1) c3) (.slice (some ⟨bb, bo, none⟩) k cB)
          have hmz := ((HM4.out.below HBq.out).five (g := g1 + 1 + 1) hgy.out (.int .i64 n) (.int .i64 v) (.int .i64 lo) (.slice A3 (m + 1) c3) (.slice (some ⟨bb, bo, none⟩) k cB))
          exact takenTo E.out hLl.out hkk.out hv.out hl.out HL0.out hbz fun W' hs hb hp => ⟨((hmz.carry hs fun b h1 h2 => hb b (by have := hgy.out; have := HG.out; omega) h2).irow hLl.out).2, hp.2⟩
        · have hos2 : Hid (Rl.others (L0.take (i + 1)) x.seq = Rl.others (L0.take i) x.seq) := Lib.hid (by rw [hos.out, if_pos s1, List.append_nil])
          have s2B : (z.1.view == v) = false := by simpa using s2
          rw [s1] at z2
          have hno2 : Hid (∀ j, j < i + 1 → ¬ ((L0.getD j kv0).1.seq = x.seq ∧ (L0.getD j kv0).1.view = v)) := Lib.hid fun j hj => by
            by_cases e : j = i
            · subst e; rw [hz.out]; exact fun hh => s2 hh.2
            · exact hno.out j (by omega)
          clear hos s2
          go_upto_region 12 with (fail)
          go_quiet (fail)
          generalize hwy : World.drewN _ _ = wq
          have HBq : Hid (Below wr.heap.size wr wq) := Lib.hid (by rw [← hwy]; exact below_self _ _)
          clear hwy c0 c1 c2 c3' c4 x3 z1 z2
          obtain ⟨c0, c1, c2, c3', c4⟩ := HX.out wq (below_next hbz.out HBq.out)
          obtain ⟨-, x3⟩ := HXX.out wq (below_next hbz.out HBq.out)
          obtain ⟨-, z1, z2, -, -, -, -, -⟩ := HC.out wq (below_next (below_next hbwp.out hb.out) HBq.out)
          rw [s1] at z2
          go_upto_region 14 with (fail)
          go_quiet (fail)
          generalize hwy : World.drewN _ _ = wu
          have HBu : Hid (Below wr.heap.size wr wu) := Lib.hid (by rw [← hwy]; exact below_draw HBq.out _)
          clear hwy c0 c1 c2 c3' c4 x3 z1 z2
          go_wp2
          go_roundg (k + 1 - (i + 1))
          case measure => omega
          case rel => exact ⟨i + 1, A', c', rfl, by omega, by go_num, by rw [hos2.out, hml.out], by rw [hos2.out, hml.out]; exact Lib.hid (hm9.out.below HBu.out), hA9, hno2, Lib.hid (below_next hb.out HBu.out)⟩
      · have hos2 : Hid (Rl.others (L0.take (i + 1)) x.seq = Rl.others (L0.take i) x.seq ++ [z]) := Lib.hid (by rw [hos.out, if_neg s1])
        have s1B : (z.1.seq == x.seq) = false := by simpa using s1
        have s1N : (z.1.seq != x.seq) = true := by simpa using s1
        have hno2 : Hid (∀ j, j < i + 1 → ¬ ((L0.getD j kv0).1.seq = x.seq ∧ (L0.getD j kv0).1.view = v)) := Lib.hid fun j hj => by
          by_cases e : j = i
          · subst e; rw [hz.out]; exact fun hh => s1 hh.1
          · exact hno.out j (by omega)
        clear hos s1
        go_upto_region 12 with (fail)
        go_quiet (fail)
        generalize hwy : World.drewN _ _ = wq
        have HBq : Hid (Below wr.heap.size wr wq) := Lib.hid (by rw [← hwy]; exact below_self _ _)
        clear hwy c0 c1 c2 c3' c4 x3 z1 z2
        obtain ⟨c0, c1, c2, c3', c4⟩ := HX.out wq (below_next hbz.out HBq.out)
        obtain ⟨-, x3⟩ := HXX.out wq (below_next hbz.out HBq.out)
        obtain ⟨-, z1, z2, -, -, -, -, -⟩ := HC.out wq (below_next (below_next hbwp.out hb.out) HBq.out)
        go_upto_region 14 with (fail)
        go_quiet (fail)
        generalize hwy : World.drewN _ _ = wu
        have HBu : Hid (Below wr.heap.size wr wu) := Lib.hid (by rw [← hwy]; exact below_draw HBq.out _)
        clear hwy c0 c1 c2 c3' c4 x3 z1 z2
        obtain ⟨c0, c1, c2, c3', c4⟩ := HX.out wu (below_next hbz.out HBu.out)
        obtain ⟨z0, z1, z2, z3, z4, z5, z6, z7⟩ := HC.out wu (below_next (below_next hbwp.out hb.out) HBu.out)
        have HMu := Lib.hid (hm9.out.below HBu.out)
        have HBw := Lib.hid (below_next hb.out HBu.out)
        go_wp2_with (first
          | (refine wpList_append_mine rfl (.tmp 82) (.tmp 88) 42 42 rfl 46 i2 (.agg #[.int .i64 0, .int .i64 0, .int .i64 0, .int .i64 0, .int .i64 0, .string noText, .string noText, .slice none 0 0]) 96 Try.underlying42 HI2.out HZ0.out HZ1.out HZ2.out rfl (by decide) rfl (HMu.out.alloc _) (HBw.out.alloc HBw.out.size _) _ 1 [.int .i64 z.1.kind, .int .i64 z.1.view, .int .i64 z.1.seq, .int .i64 0, .int .i64 0, .string z.1.digest, .string z.1.text, .slice A7 z.1.list.length c7] rfl (src_new Try.underlying42 _ _ _ 1 1 rfl (by simp [Value.oneCell'])) (by unfold maxLen; omega) (by omega) ?_; intro A2 c2 w3 hm3 hb3; have HM3 := Lib.hid hm3; have HB3 := Lib.hid hb3; clear hm3 hb3))
        go_roundg (k + 1 - (i + 1))
        case measure => omega
        case rel =>
          have hlen2 : (Rl.others (L0.take (i + 1)) x.seq).length = ml + 1 := by rw [hos2.out, List.length_append, hml.out]; rfl
          have hzc : kvcells [z] = [.int .i64 z.1.kind, .int .i64 z.1.view, .int .i64 z.1.seq, .int .i64 0, .int .i64 0, .string z.1.digest, .string z.1.text, .slice A7 z.1.list.length c7] := by
            have e : kvcells [z] = kcell z.1 z.2 ++ [] := rfl
            rw [e, List.append_nil, H7.out]; rfl
          refine ⟨i + 1, A2, c2, rfl, by omega, by go_num, by rw [hlen2], Lib.hid ?_, Lib.hid ?_, hno2, Lib.hid HB3.out⟩
          · rw [hlen2, hos2.out, kvcells_append, hzc]
            exact HM3.out
          · exact .inr (HM3.out.addr (by omega))
    · obtain rfl : i = k := by omega
      clear hlt i0
      have EF : Hid (L0.take i = L0) := Lib.hid (List.take_of_length_le (by rw [hkL.out]; exact Nat.le_refl _))
      rw [EF.out] at hm9 hml
      have HS : Hid (∀ wx : World, Below wr.heap.size wr wx → wx.cell? ⟨g1, 0, none⟩ = some (.int .i64 n) ∧ wx.cell? ⟨g1, 1, none⟩ = some (.int .i64 v) ∧ wx.cell? ⟨g1, 2, none⟩ = some (.int .i64 lo) ∧ wx.cell? ⟨g1, 3, none⟩ = some (.slice A3 (m + 1) c3) ∧ wx.cell? ⟨g1, 4, none⟩ = some (.slice B i cB) ∧ wx.cell? ⟨g1 + 1, 3, none⟩ = some (.int .i64 x.seq) ∧ wx.cell? ⟨gp, 4, none⟩ = some (.string p.digest) ∧ wx.cell? ⟨gp, 5, none⟩ = some (.string p.batch)) := Lib.hid fun wx hx => by
        obtain ⟨d0, d1, d2, d3, d4⟩ := HX.out wx (below_next hbz.out hx)
        obtain ⟨-, e3⟩ := HXX.out wx (below_next hbz.out hx)
        obtain ⟨p4, p5⟩ := HPP.out wx (below_next hb.out hx)
        exact ⟨d0, d1, d2, d3, d4, e3, p4, p5⟩
      go_upto_region 16 with (fail)
      go_cut [11] from 90 to 102 (fun s11 wc => ∃ gb, s11 = .pointer (some ⟨gb, 0, none⟩) ∧ Hid (Blk wc gb 46 #[.int .i64 11, .int .i64 v, .int .i64 x.seq, .int .i64 0, .int .i64 0, .string p.digest, .string p.batch, .slice (some ⟨b5, o5, none⟩) q c5]) ∧ Hid (Below wr.heap.size wr wc))
      case first =>
        clear c0 c1 c2 c3' c4 x3
        have Hd0 : Hid (Below wr.heap.size wr wr.drew) := Lib.hid (Below.refl _ _).drew
        have hq0 : (0 : Int) ≤ (q : Int) := by omega
        have Hd1 : Hid (Below wr.heap.size wr (wr.alloc (.cells #[.int .i64 0, .int .i64 0, .int .i64 0, .int .i64 0, .int .i64 0, .string ⟨#[]⟩, .string ⟨#[]⟩, .slice none 0 0] 46)).drew) := Lib.hid ((Below.refl _ _).alloc (Nat.le_refl _) _).drew
        have HQ0 := Lib.hid (HQ.out wr.drew A3 c3)
        have HQ1 := Lib.hid (HQ.out (wr.alloc (.cells #[.int .i64 0, .int .i64 0, .int .i64 0, .int .i64 0, .int .i64 0, .string ⟨#[]⟩, .string ⟨#[]⟩, .slice none 0 0] 46)).drew A3 c3)
        have HBB : Hid (∀ wq, Below (wr.alloc (.cells #[.int .i64 0, .int .i64 0, .int .i64 0, .int .i64 0, .int .i64 0, .string ⟨#[]⟩, .string ⟨#[]⟩, .slice none 0 0] 46)).drew.heap.size (wr.alloc (.cells #[.int .i64 0, .int .i64 0, .int .i64 0, .int .i64 0, .int .i64 0, .string ⟨#[]⟩, .string ⟨#[]⟩, .slice none 0 0] 46)).drew wq → Blk wq wr.heap.size 46 #[.int .i64 0, .int .i64 0, .int .i64 0, .int .i64 0, .int .i64 0, .string ⟨#[]⟩, .string ⟨#[]⟩, .slice none 0 0]) := Lib.hid fun wq h => ((Blk.new wr 46 #[.int .i64 0, .int .i64 0, .int .i64 0, .int .i64 0, .int .i64 0, .string ⟨#[]⟩, .string ⟨#[]⟩, .slice none 0 0]).drew).below h ((Blk.new wr 46 #[.int .i64 0, .int .i64 0, .int .i64 0, .int .i64 0, .int .i64 0, .string ⟨#[]⟩, .string ⟨#[]⟩, .slice none 0 0]).drew).lt
        go_region_held3 (fun wx => wx.cell? ⟨g1, 0, none⟩ = some (.int .i64 n) ∧ wx.cell? ⟨g1, 1, none⟩ = some (.int .i64 v) ∧ wx.cell? ⟨g1, 2, none⟩ = some (.int .i64 lo) ∧ wx.cell? ⟨g1, 3, none⟩ = some (.slice A3 (m + 1) c3) ∧ wx.cell? ⟨g1, 4, none⟩ = some (.slice B i cB) ∧ wx.cell? ⟨g1 + 1, 3, none⟩ = some (.int .i64 x.seq) ∧ wx.cell? ⟨gp, 4, none⟩ = some (.string p.digest) ∧ wx.cell? ⟨gp, 5, none⟩ = some (.string p.batch))
          (first | (with_reducible exact HS.out _ Hd0.out) | (with_reducible exact HS.out _ Hd1.out) | (with_reducible exact HS.out _ (below_next Hd0.out hbq0.out)) | (with_reducible exact HS.out _ ((below_next Hd0.out hbq0.out).alloc (below_next Hd0.out hbq0.out).size _)) | (with_reducible exact HS.out _ (below_next Hd1.out hbq1.out)) | (with_reducible exact HS.out _ (((((((((below_next Hd1.out hbq1.out).setCell (Nat.le_refl _) _).setCell (Nat.le_refl _) _).setCell (Nat.le_refl _) _).setCell (Nat.le_refl _) _).setCell (Nat.le_refl _) _).setCell (Nat.le_refl _) _).setCell (Nat.le_refl _) _).setCell (Nat.le_refl _) _)))
          (first
            | (go_at_call 56; (with_reducible refine (HQ0.out).mono ?_); rintro e wq ⟨rfl, hh⟩; have hbq0 := Lib.hid hh; clear hh)
            | (go_at_call 56; (with_reducible refine (HQ1.out).mono ?_); rintro e wq ⟨rfl, hh⟩; have BB := HBB.out wq hh; have hbq1 := Lib.hid hh; have e0 : wq.cell? ⟨wr.heap.size, 0, none⟩ = some (.int .i64 0) := BB.cell 0; have f0 := BB.frozen 0; have e1 : wq.cell? ⟨wr.heap.size, 1, none⟩ = some (.int .i64 0) := BB.cell 1; have f1 := BB.frozen 1; have e2 : wq.cell? ⟨wr.heap.size, 2, none⟩ = some (.int .i64 0) := BB.cell 2; have f2 := BB.frozen 2; have e3 : wq.cell? ⟨wr.heap.size, 3, none⟩ = some (.int .i64 0) := BB.cell 3; have f3 := BB.frozen 3; have e4 : wq.cell? ⟨wr.heap.size, 4, none⟩ = some (.int .i64 0) := BB.cell 4; have f4 := BB.frozen 4; have e5 : wq.cell? ⟨wr.heap.size, 5, none⟩ = some (.string ⟨#[]⟩) := BB.cell 5; have f5 := BB.frozen 5; have e6 : wq.cell? ⟨wr.heap.size, 6, none⟩ = some (.string ⟨#[]⟩) := BB.cell 6; have f6 := BB.frozen 6; have e7 : wq.cell? ⟨wr.heap.size, 7, none⟩ = some (.slice none 0 0) := BB.cell 7; have f7 := BB.frozen 7; clear hh BB))
        · go_wp2_with fail
          go_meet
          exact ⟨_, rfl, Lib.hid (Blk.new wq _ _), Lib.hid ((below_next Hd0.out hbq0.out).alloc (below_next Hd0.out hbq0.out).size _)⟩
        · go_wp2_with fail
          go_meet
          exact ⟨_, rfl, Lib.hid (((((((((HBB.out wq hbq1.out).set_ 0 (.int .i64 11)).set_ 1 (.int .i64 v)).set_ 2 (.int .i64 x.seq)).set_ 3 (.int .i64 0)).set_ 4 (.int .i64 0)).set_ 5 (.string p.digest)).set_ 6 (.string p.batch)).set_ 7 (.slice (some ⟨b5, o5, none⟩) q c5)), Lib.hid (((((((((below_next Hd1.out hbq1.out).setCell (Nat.le_refl _) _).setCell (Nat.le_refl _) _).setCell (Nat.le_refl _) _).setCell (Nat.le_refl _) _).setCell (Nat.le_refl _) _).setCell (Nat.le_refl _) _).setCell (Nat.le_refl _) _).setCell (Nat.le_refl _) _)⟩
      case rest =>
        obtain ⟨gb, rfl, BB, hW⟩ := hcut
        have hbwc := Lib.hid (below_next (below_next hbwp.out hb.out) hW.out)
        have hbzc := Lib.hid (below_next hbz.out hW.out)
        have HMc := Lib.hid (hm9.out.below hW.out)
        have HKVc : Hid (∀ pz ∈ Rl.others L0 x.seq, KVal w pz) := Lib.hid fun pz hpz => HKV.out.2 pz (List.mem_filter.1 hpz).1
        have HBB2 : Hid (∀ wx : World, Below wc.heap.size wc wx → wx.cell? ⟨gb, 0, none⟩ = some (.int .i64 11) ∧ wx.cell? ⟨gb, 1, none⟩ = some (.int .i64 v) ∧ wx.cell? ⟨gb, 2, none⟩ = some (.int .i64 x.seq) ∧ wx.cell? ⟨gb, 3, none⟩ = some (.int .i64 0) ∧ wx.cell? ⟨gb, 4, none⟩ = some (.int .i64 0) ∧ wx.cell? ⟨gb, 5, none⟩ = some (.string p.digest) ∧ wx.cell? ⟨gb, 6, none⟩ = some (.string p.batch) ∧ wx.cell? ⟨gb, 7, none⟩ = some (.slice (some ⟨b5, o5, none⟩) q c5)) := Lib.hid fun wx hx => by
          have b1 := BB.out.below hx BB.out.lt
          exact ⟨b1.cell 0, b1.cell 1, b1.cell 2, b1.cell 3, b1.cell 4, b1.cell 5, b1.cell 6, b1.cell 7⟩
        have hbr := hb
        clear hm9 hb HS
        rcases hA9.out with ⟨rfl, rfl⟩ | ⟨b9, o9, rfl⟩
        · skip
          have hml0 : ml = 0 := by
            have := (HMc.out.kvrow hml.out (fun pz hpz => (HKVc.out pz hpz).below hbwc.out)).1
            omega
          subst hml0
          have hkk3 : Hid (0 - Rl.tw ((Rl.others L0 x.seq).map Prod.fst) x.seq 0 = 0) := Lib.hid (Nat.zero_sub _)
          have EB : Hid (y.taken x = { y.more x with kept := ((Rl.others L0 x.seq).take 0 ++ (⟨11, v, x.seq, p.digest, p.batch, ag.take q⟩, .slice (some ⟨b5, o5, none⟩) q c5) :: (Rl.others L0 x.seq).drop 0).map Prod.fst }) := Lib.hid (by
            rw [E0.out, if_neg]
            · rw [Rl.slip_fst (Rl.others L0 x.seq) ⟨11, v, x.seq, p.digest, p.batch, ag.take q⟩ _ (k := 0) (by rw [hml.out]; exact hkk3.out.symm), Rl.others_fst, HL0.out, hv.out, hp.out, hag.out, hqe.out]; rfl
            · rw [List.any_eq_true]
              rintro ⟨z, hz, hz2⟩
              rw [← HL0.out] at hz
              obtain ⟨pz, hpz, rfl⟩ := List.mem_map.1 hz
              obtain ⟨jz, hjz, hgz⟩ := List.mem_iff_getElem.1 hpz
              refine hno.out jz (by rw [← hkL.out]; exact hjz) ?_
              rw [List.getD_eq_getElem?_getD, List.getElem?_eq_getElem hjz]
              simp only [Option.getD_some, hgz]
              simpa [hv.out] using hz2)
          go_wp2
          go_loopg [12] 1 (fun gk s12 wx => gk = 1 ∧ s12 = .int .i64 0 ∧ Hid (Below wc.heap.size wc wx))
          case atStart => exact ⟨rfl, rfl, Lib.hid (Below.refl _ _)⟩
          case round =>
            obtain ⟨rfl, rfl, hbx⟩ := hrel
            go_upto_region 18 with (fail)
            go_quiet (fail)
            generalize hwy : World.drewN _ _ = wq
            have hb18 : Hid (Below wc.heap.size wc wq) := Lib.hid (by rw [← hwy]; exact below_draw hbx.out _)
            clear hwy
            go_upto_region 22 with (fail)
            obtain ⟨u0, u1, u2, u3, u4, u5, u6, u7⟩ := HBB2.out wq hb18.out
            go_upto_region 23 with (first
              | (refine wpList_append_mine rfl (.tmp 125) (.tmp 127) 42 42 rfl 46 i2 (.agg #[.int .i64 0, .int .i64 0, .int .i64 0, .int .i64 0, .int .i64 0, .string noText, .string noText, .slice none 0 0]) 96 Try.underlying42 HI2.out HZ0.out HZ1.out HZ2.out rfl (by decide) rfl (Mine.empty wq _ 8 _) ((Below.refl _ _).alloc (Nat.le_refl _) _) _ 1 [.int .i64 11, .int .i64 v, .int .i64 x.seq, .int .i64 0, .int .i64 0, .string p.digest, .string p.batch, .slice (some ⟨b5, o5, none⟩) q c5] rfl (src_new Try.underlying42 _ _ _ 1 1 rfl (by simp [Value.oneCell'])) (by unfold maxLen; omega) (by omega) ?_; intro A22 c22 w22 hm22 hb22; have HM22 := Lib.hid (show Mine wq w22 8 (.slice A22 1 c22) 1 [.int .i64 11, .int .i64 v, .int .i64 x.seq, .int .i64 0, .int .i64 0, .string p.digest, .string p.batch, .slice (some ⟨b5, o5, none⟩) q c5] from hm22); have HB22 := Lib.hid hb22; clear hm22 hb22))
            clear u0 u1 u2 u3 u4 u5 u6 u7
            obtain ⟨c0, c1, c2, c3', c4⟩ := HX.out w22 (below_next (below_next hbzc.out hb18.out) HB22.out)
            go_upto_region 24 with (first
              | (at_builtin; (refine wpList_append_mine rfl (.tmp 129) (.tmp 132) 42 42 rfl 46 i2 (.agg #[.int .i64 0, .int .i64 0, .int .i64 0, .int .i64 0, .int .i64 0, .string noText, .string noText, .slice none 0 0]) 96 Try.underlying42 HI2.out HZ0.out HZ1.out HZ2.out rfl (by decide) rfl HM22.out HB22.out _ 0 [] rfl (Src.ofNil _ Try.underlying42 _) (by unfold maxLen; omega) (by omega) ?_; intro A23 c23 w23 hm23 hb23; have HM23 := Lib.hid (show Mine wq w23 8 (.slice A23 1 c23) 1 [.int .i64 11, .int .i64 v, .int .i64 x.seq, .int .i64 0, .int .i64 0, .string p.digest, .string p.batch, .slice (some ⟨b5, o5, none⟩) q c5] from hm23); have HB23 := Lib.hid hb23; have s4 := (HX.out w23 (below_next (below_next hbzc.out hb18.out) hb23)).2.2.2.2; have t4 := (BL.out.below (below_next (below_next hbzc.out hb18.out) hb23) BL.out.lt).frozen 4; clear hm23 hb23)))
            clear c0 c1 c2 c3' c4
            have hz23 := Lib.hid (below_next (below_next hbzc.out hb18.out) HB23.out)
            obtain ⟨c0, c1, c2, c3', c4⟩ := HX.out w23 hz23.out
            obtain ⟨⟨z0, z1, z2, z3, z4⟩, f0, f1, f2, f3, f4⟩ := HZ.out w23 hz23.out
            go_wp2
            (try simp only [Exit.inBlock, Exit.then])
            refine bodyPost_ret (by simp [results, Try.results53, asAddr, go_sem, c0, c1, c2, c3', c4, z0, z1, z2, z3, z4]; rfl) rfl ?_
            have hbx2 := below_next hbw.out hz23.out
            have hbz := below_five (B := w.heap.size) (g := g1 + 1 + 1) (hbx2.setCell (p := ⟨g1, 4, none⟩) (by rw [HG.out]; exact Nat.le_refl _) (.slice A23 1 c23)) (by rw [HG.out]; exact Nat.le_add_right _ 2) (.int .i64 n) (.int .i64 v) (.int .i64 lo) (.slice A3 (m + 1) c3) (.slice A23 1 c23)
            have hgz1 : g1 < wz.heap.size := BL.out.lt
            have hgz2 : g1 + 1 + 1 < wz.heap.size := BR.out.lt
            have hmz := ((HM4.out.below hz23.out).cell1 (g := g1) (j := 4) (by have := hgy.out; omega) (.slice A23 1 c23)).five (g := g1 + 1 + 1) hgy.out (.int .i64 n) (.int .i64 v) (.int .i64 lo) (.slice A3 (m + 1) c3) (.slice A23 1 c23)
            have hm5 := ((HM5.out.below (below_next (below_next (below_next (below_next hb58.out hbr.out) hW.out) hb18.out) HB23.out)).cell1 (g := g1) (j := 4) hgz1 (.slice A23 1 c23)).five (g := g1 + 1 + 1) hgz2 (.int .i64 n) (.int .i64 v) (.int .i64 lo) (.slice A3 (m + 1) c3) (.slice A23 1 c23)
            have hsz18 := Nat.le_trans hbzc.out.size hb18.out.size
            have hk23 := (HM23.out.cell1 (g := g1) (j := 4) (by omega) (.slice A23 1 c23)).five (g := g1 + 1 + 1) (by omega) (.int .i64 n) (.int .i64 v) (.int .i64 lo) (.slice A3 (m + 1) c3) (.slice A23 1 c23)
            have hO : (Rl.others L0 x.seq) = [] := List.eq_nil_of_length_eq_zero hml.out
            have hRc : [.int .i64 11, .int .i64 v, .int .i64 x.seq, .int .i64 0, .int .i64 0, .string p.digest, .string p.batch, .slice (some ⟨b5, o5, none⟩) q c5] = kvcells ((Rl.others L0 x.seq).take 0 ++ (⟨11, v, x.seq, p.digest, p.batch, ag.take q⟩, .slice (some ⟨b5, o5, none⟩) q c5) :: (Rl.others L0 x.seq).drop 0) := by
              rw [hO]; rfl
            rw [hRc] at hk23
            have hlt5 : (ag.take q).length = q := by rw [List.length_take, hln.out]; omega
            have hRl : ((Rl.others L0 x.seq).take 0 ++ (⟨11, v, x.seq, p.digest, p.batch, ag.take q⟩, .slice (some ⟨b5, o5, none⟩) q c5) :: (Rl.others L0 x.seq).drop 0).length = 1 := by
              rw [hO]; rfl
            refine takenTo EB.out hLl.out (by show (List.map Prod.fst _).length = _; rw [List.length_map]; exact hRl) hv.out hl.out rfl hbz fun W' hs hb hp => ?_
            have hwc18 := Nat.le_trans hbwc.out.size hb18.out.size
            refine ⟨((hmz.carry hs fun b h1 h2 => hb b (by have := hgy.out; have := HG.out; omega) h2).irow hLl.out).2, (Mine.kvrow (hk23.carry hs fun b h1 h2 => hb b (by omega) h2) hRl fun pz hpz => ?_).2⟩
            rw [hO] at hpz
            have hpz2 : pz ∈ [((⟨11, v, x.seq, p.digest, p.batch, ag.take q⟩ : Kb), Value.slice (some ⟨b5, o5, none⟩) q c5)] := hpz
            rw [List.mem_singleton] at hpz2
            subst hpz2
            exact ⟨some ⟨b5, o5, none⟩, c5, by show _ = Value.slice _ (ag.take q).length _; rw [hlt5], (Mine.srow (hm5.carry hs fun b h1 h2 => hb b (Nat.le_trans hbw.out.size h1) h2) hln.out hlq).2⟩
        · have HKW := Lib.hid (HMc.out.kvrow hml.out (fun pz hpz => (HKVc.out pz hpz).below hbwc.out))
          have hmc9 := HKW.out.1
          have hmcI : (ml : Int) ≤ (c' : Int) := by omega
          go_wp2
          go_loopg [12] (ml + 1) (fun gk s12 wx => ∃ kk : Nat, gk = kk + 1 ∧ kk ≤ ml ∧ s12 = .int .i64 (kk : Int) ∧ Hid (ml - Rl.tw ((Rl.others L0 x.seq).map Prod.fst) x.seq ml = kk - Rl.tw ((Rl.others L0 x.seq).map Prod.fst) x.seq kk) ∧ Hid (Below wc.heap.size wc wx))
          case atStart => exact ⟨ml, rfl, Nat.le_refl _, rfl, Lib.hid rfl, Lib.hid (Below.refl _ _)⟩
          case round =>
            obtain ⟨kk, rfl, hkm, rfl, hkk2, hbx⟩ := hrel
            obtain ⟨Bt, hBt⟩ : ∃ Bt, Hid (decide (0 < kk ∧ x.seq < ((Rl.others L0 x.seq).getD (kk - 1) kv0).1.seq) = Bt) := ⟨_, Lib.hid rfl⟩
            go_upto_region 18 with (fail)
            go_cut [117] from 105 to 119 (fun s117 wc2 => s117 = .bool Bt ∧ Hid (Below wc.heap.size wc wc2))
            case first =>
              cases kk with
              | zero =>
                have E : Hid (Bt = false) := Lib.hid (by rw [← hBt.out]; simp)
                have ez : ((0 : Nat) : Int) = 0 := rfl
                rw [ez]
                go_quiet (fail)
                go_wp2_with fail
                go_meet
                exact ⟨by rw [E.out], Lib.hid (below_draw hbx.out _)⟩
              | succ j =>
                obtain ⟨zz, hzz⟩ : ∃ zz : Int, ((j + 1 : Nat) : Int) = zz := ⟨_, rfl⟩
                have hz1 : IntKind.i64.wrap (zz - 1) = (j : Int) := by rw [← hzz, IntKind.wrap_i64]; omega
                have hz0 : 0 < zz := by omega
                have HZZ := Lib.hid hzz
                rw [hzz]
                obtain ⟨b', o', e', hc8⟩ := HKW.out.2.cells (i := j) (by rw [hml.out]; omega)
                cases e'
                have k2 : wr.cell? ⟨b9, o9 + j * 8 + 2, none⟩ = some (.int .i64 ((Rl.others L0 x.seq).getD j kv0).1.seq) := hc8 wr hbx.out 2 (by omega)
                obtain ⟨-, -, u2, -, -, -, -, -⟩ := HBB2.out wr hbx.out
                have ej : j + 1 - 1 = j := by omega
                have hBt2 := hBt.out
                rw [ej] at hBt2
                generalize ((Rl.others L0 x.seq).getD j kv0).1.seq = sj at k2 hBt2
                have HBt2 := Lib.hid hBt2
                have hj0 : (0 : Int) ≤ (j : Int) := by omega
                have hj1 : (j : Int) < (ml : Int) := by omega
                clear hc8 ej hzz hBt2
                by_cases hs : x.seq < sj
                · have E : Hid (Bt = true) := Lib.hid (by rw [← HBt2.out]; simp [hs])
                  go_quiet (fail)
                  go_wp2_with fail
                  have hz9 := HZZ.out
                  subst hz9
                  go_meet
                  exact ⟨by rw [E.out], Lib.hid (below_draw hbx.out _)⟩
                · have E : Hid (Bt = false) := Lib.hid (by rw [← HBt2.out]; simp [hs])
                  have hsB : decide (x.seq < sj) = false := by simpa using hs
                  go_quiet (fail)
                  go_wp2_with fail
                  have hz9 := HZZ.out
                  subst hz9
                  go_meet
                  exact ⟨by rw [E.out], Lib.hid (below_draw hbx.out _)⟩
            case rest =>
              obtain ⟨rfl, hb18⟩ := hcut
              by_cases hgo : 0 < kk ∧ x.seq < ((Rl.others L0 x.seq).getD (kk - 1) kv0).1.seq
              · have E : Hid (Bt = true) := Lib.hid (by rw [← hBt.out]; exact decide_eq_true hgo)
                obtain ⟨j, rfl⟩ : ∃ j, kk = j + 1 := ⟨kk - 1, by omega⟩
                obtain ⟨zz, hzz⟩ : ∃ zz : Int, ((j + 1 : Nat) : Int) = zz := ⟨_, rfl⟩
                have hz1 : IntKind.i64.wrap (zz - 1) = (j : Int) := by rw [← hzz, IntKind.wrap_i64]; omega
                have hinv : Hid (ml - Rl.tw ((Rl.others L0 x.seq).map Prod.fst) x.seq ml = j - Rl.tw ((Rl.others L0 x.seq).map Prod.fst) x.seq j) := Lib.hid (by
                  have h1 := hkk2.out
                  have hjl : j < (Rl.others L0 x.seq).length := by rw [hml.out]; omega
                  have h2 := hgo.2
                  rw [show j + 1 - 1 = j from by omega] at h2
                  have h3 := Rl.tw_step ((Rl.others L0 x.seq).map Prod.fst) x.seq (k := j) (by rw [List.length_map]; exact hjl)
                  rw [Rl.getD_fst _ hjl, if_pos h2] at h3
                  omega)
                rw [E.out, hzz]
                clear hgo hzz
                go_wp2
                go_roundg (j + 1)
                case measure => omega
                case rel => exact ⟨j, rfl, by omega, rfl, hinv, hb18⟩
              · have E : Hid (Bt = false) := Lib.hid (by rw [← hBt.out]; exact decide_eq_false hgo)
                have hkk3 : Hid (ml - Rl.tw ((Rl.others L0 x.seq).map Prod.fst) x.seq ml = kk) := Lib.hid (by
                  have h1 := hkk2.out
                  have h0 : Rl.tw ((Rl.others L0 x.seq).map Prod.fst) x.seq kk = 0 := by
                    cases kk with
                    | zero => exact Rl.tw_zero _ _
                    | succ j =>
                      have hjl : j < (Rl.others L0 x.seq).length := by rw [hml.out]; omega
                      have h3 := Rl.tw_step ((Rl.others L0 x.seq).map Prod.fst) x.seq (k := j) (by rw [List.length_map]; exact hjl)
                      rw [Rl.getD_fst _ hjl, if_neg] at h3
                      · exact h3
                      · intro hh
                        exact hgo ⟨by omega, by rwa [show j + 1 - 1 = j from by omega]⟩
                  omega)
                clear hgo
                rw [E.out]
                have EB : Hid (y.taken x = { y.more x with kept := ((Rl.others L0 x.seq).take kk ++ (⟨11, v, x.seq, p.digest, p.batch, ag.take q⟩, .slice (some ⟨b5, o5, none⟩) q c5) :: (Rl.others L0 x.seq).drop kk).map Prod.fst }) := Lib.hid (by
                  rw [E0.out, if_neg]
                  · rw [Rl.slip_fst (Rl.others L0 x.seq) ⟨11, v, x.seq, p.digest, p.batch, ag.take q⟩ _ (k := kk) (by rw [hml.out]; exact hkk3.out.symm), Rl.others_fst, HL0.out, hv.out, hp.out, hag.out, hqe.out]; rfl
                  · rw [List.any_eq_true]
                    rintro ⟨z, hz, hz2⟩
                    rw [← HL0.out] at hz
                    obtain ⟨pz, hpz, rfl⟩ := List.mem_map.1 hz
                    obtain ⟨jz, hjz, hgz⟩ := List.mem_iff_getElem.1 hpz
                    refine hno.out jz (by rw [← hkL.out]; exact hjz) ?_
                    rw [List.getD_eq_getElem?_getD, List.getElem?_eq_getElem hjz]
                    simp only [Option.getD_some, hgz]
                    simpa [hv.out] using hz2)
                have kI0 : (0 : Int) ≤ (kk : Int) := by omega
                have kI1 : (kk : Int) ≤ (ml : Int) := by omega
                have kI2 : (kk : Int) ≤ (c' : Int) := by omega
                have HM18 := Lib.hid (HMc.out.below hb18.out)
                have HSt := Lib.hid (kv_src_take HM18.out hml.out HKVc.out hkm c')
                go_upto_region 22 with (first
                  | (refine wpList_append_mine rfl (.tmp 120) (.tmp 123) 42 42 rfl 46 i2 (.agg #[.int .i64 0, .int .i64 0, .int .i64 0, .int .i64 0, .int .i64 0, .string noText, .string noText, .slice none 0 0]) 96 Try.underlying42 HI2.out HZ0.out HZ1.out HZ2.out rfl (by decide) rfl (Mine.empty wc _ 8 _) (Below.refl _ _) _ kk (kvcells ((Rl.others L0 x.seq).take kk)) rfl HSt.out (by unfold maxLen; omega) (by omega) ?_; intro A21 c21 w21 hm21 hb21; have HM21 := Lib.hid hm21; have HB21 := Lib.hid hb21; clear hm21 hb21))
                rw [Nat.zero_add, List.nil_append] at HM21
                obtain ⟨u0, u1, u2, u3, u4, u5, u6, u7⟩ := HBB2.out w21 (below_next hb18.out HB21.out)
                go_upto_region 23 with (first
                  | (refine wpList_append_mine rfl (.tmp 125) (.tmp 127) 42 42 rfl 46 i2 (.agg #[.int .i64 0, .int .i64 0, .int .i64 0, .int .i64 0, .int .i64 0, .string noText, .string noText, .slice none 0 0]) 96 Try.underlying42 HI2.out HZ0.out HZ1.out HZ2.out rfl (by decide) rfl (HM21.out.alloc _) (HB21.out.alloc HB21.out.size _) _ 1 [.int .i64 11, .int .i64 v, .int .i64 x.seq, .int .i64 0, .int .i64 0, .string p.digest, .string p.batch, .slice (some ⟨b5, o5, none⟩) q c5] rfl (src_new Try.underlying42 _ _ _ 1 1 rfl (by simp [Value.oneCell'])) (by unfold maxLen; omega) (by omega) ?_; intro A22 c22 w22 hm22 hb22; have HM22 := Lib.hid hm22; have HB22 := Lib.hid hb22; clear hm22 hb22))
                clear u0 u1 u2 u3 u4 u5 u6 u7
                by_cases hck : c' = kk
                · subst c'
                  have HSd := Lib.hid (fun c2 => show Src Try.prog 8 42 (.slice (some ⟨b9, o9, none⟩) 0 c2) 0 (kvcells ((Rl.others L0 x.seq).drop kk)) w22 from by
                    have h0 : ml - kk = 0 := by omega
                    have := kv_src_drop (HM18.out.below HB22.out) hml.out HKVc.out hkm (⟨b9, o9, none⟩) (fun hh => absurd hh (by omega)) c2
                    rw [h0] at this
                    exact this)
                  obtain ⟨c0, c1, c2, c3', c4⟩ := HX.out w22 (below_next (below_next hbzc.out hb18.out) HB22.out)
                  go_upto_region 24 with (first
                    | (refine wpList_append_mine rfl (.tmp 129) (.tmp 132) 42 42 rfl 46 i2 (.agg #[.int .i64 0, .int .i64 0, .int .i64 0, .int .i64 0, .int .i64 0, .string noText, .string noText, .slice none 0 0]) 96 Try.underlying42 HI2.out HZ0.out HZ1.out HZ2.out rfl (by decide) rfl HM22.out HB22.out _ 0 (kvcells ((Rl.others L0 x.seq).drop kk)) rfl (HSd.out _) (by unfold maxLen; omega) (by omega) ?_; intro A23 c23 w23 hm23 hb23; have HM23 := Lib.hid (show Mine wc w23 8 (.slice A23 (kk + 1) c23) (kk + 1) _ from hm23); have HB23 := Lib.hid hb23; have s4 := (HX.out w23 (below_next (below_next hbzc.out hb18.out) hb23)).2.2.2.2; have t4 := (BL.out.below (below_next (below_next hbzc.out hb18.out) hb23) BL.out.lt).frozen 4; clear hm23 hb23))
                  clear c0 c1 c2 c3' c4
                  have hz23 := Lib.hid (below_next (below_next hbzc.out hb18.out) HB23.out)
                  obtain ⟨c0, c1, c2, c3', c4⟩ := HX.out w23 hz23.out
                  obtain ⟨⟨z0, z1, z2, z3, z4⟩, f0, f1, f2, f3, f4⟩ := HZ.out w23 hz23.out
                  go_wp2
                  (try simp only [Exit.inBlock, Exit.then])
                  refine bodyPost_ret (by simp [results, Try.results53, asAddr, go_sem, c0, c1, c2, c3', c4, z0, z1, z2, z3, z4]; rfl) rfl ?_
                  have hbx := below_next hbw.out hz23.out
                  have hbz := below_five (B := w.heap.size) (g := g1 + 1 + 1) (hbx.setCell (p := ⟨g1, 4, none⟩) (by rw [HG.out]; exact Nat.le_refl _) (.slice A23 (kk + 1) c23)) (by rw [HG.out]; exact Nat.le_add_right _ 2) (.int .i64 n) (.int .i64 v) (.int .i64 lo) (.slice A3 (m + 1) c3) (.slice A23 (kk + 1) c23)
                  have hgz1 : g1 < wz.heap.size := BL.out.lt
                  have hgz2 : g1 + 1 + 1 < wz.heap.size := BR.out.lt
                  have hmz := ((HM4.out.below hz23.out).cell1 (g := g1) (j := 4) (by have := hgy.out; omega) (.slice A23 (kk + 1) c23)).five (g := g1 + 1 + 1) hgy.out (.int .i64 n) (.int .i64 v) (.int .i64 lo) (.slice A3 (m + 1) c3) (.slice A23 (kk + 1) c23)
                  have hm5 := ((HM5.out.below (below_next (below_next (below_next (below_next hb58.out hbr.out) hW.out) hb18.out) HB23.out)).cell1 (g := g1) (j := 4) hgz1 (.slice A23 (kk + 1) c23)).five (g := g1 + 1 + 1) hgz2 (.int .i64 n) (.int .i64 v) (.int .i64 lo) (.slice A3 (m + 1) c3) (.slice A23 (kk + 1) c23)
                  have hsz18 := Nat.le_trans hbzc.out.size hb18.out.size
                  have hk23 := (HM23.out.cell1 (g := g1) (j := 4) (by omega) (.slice A23 (kk + 1) c23)).five (g := g1 + 1 + 1) (by omega) (.int .i64 n) (.int .i64 v) (.int .i64 lo) (.slice A3 (m + 1) c3) (.slice A23 (kk + 1) c23)
                  have hRc : kvcells ((Rl.others L0 x.seq).take kk) ++ [.int .i64 11, .int .i64 v, .int .i64 x.seq, .int .i64 0, .int .i64 0, .string p.digest, .string p.batch, .slice (some ⟨b5, o5, none⟩) q c5] ++ kvcells ((Rl.others L0 x.seq).drop kk) = kvcells ((Rl.others L0 x.seq).take kk ++ (⟨11, v, x.seq, p.digest, p.batch, ag.take q⟩, .slice (some ⟨b5, o5, none⟩) q c5) :: (Rl.others L0 x.seq).drop kk) := by
                    rw [List.append_assoc, kvcells_append]; rfl
                  rw [hRc] at hk23
                  have hlt5 : (ag.take q).length = q := by rw [List.length_take, hln.out]; omega
                  have hRl : ((Rl.others L0 x.seq).take kk ++ (⟨11, v, x.seq, p.digest, p.batch, ag.take q⟩, .slice (some ⟨b5, o5, none⟩) q c5) :: (Rl.others L0 x.seq).drop kk).length = (kk + 1) := by
                    rw [List.length_append, List.length_take, List.length_cons, List.length_drop, hml.out]; omega
                  refine takenTo EB.out hLl.out (by show (List.map Prod.fst _).length = _; rw [List.length_map]; exact hRl) hv.out hl.out rfl hbz fun W' hs hb hp => ?_
                  have hwc18 := Nat.le_trans hbwc.out.size hb18.out.size
                  refine ⟨((hmz.carry hs fun b h1 h2 => hb b (by have := hgy.out; have := HG.out; omega) h2).irow hLl.out).2, (Mine.kvrow (hk23.carry hs fun b h1 h2 => hb b (by omega) h2) hRl fun pz hpz => ?_).2⟩
                  rcases List.mem_append.1 hpz with hpz | hpz
                  · exact hp.2.2 pz (List.mem_filter.1 (List.mem_of_mem_take hpz)).1
                  · rcases List.mem_cons.1 hpz with rfl | hpz
                    · exact ⟨some ⟨b5, o5, none⟩, c5, by show _ = Value.slice _ (ag.take q).length _; rw [hlt5], (Mine.srow (hm5.carry hs fun b h1 h2 => hb b (Nat.le_trans hbw.out.size h1) h2) hln.out hlq).2⟩
                    · exact hp.2.2 pz (List.mem_filter.1 (List.mem_of_mem_drop hpz)).1
                · have hckI : ¬ (c' : Int) = (kk : Int) := by omega
                  have HSd := Lib.hid (fun c2 => kv_src_drop (HM18.out.below HB22.out) hml.out HKVc.out hkm (⟨b9, o9 + kk * 8, none⟩) (fun hh => rfl) c2)
                  obtain ⟨c0, c1, c2, c3', c4⟩ := HX.out w22 (below_next (below_next hbzc.out hb18.out) HB22.out)
                  go_upto_region 24 with (first
                    | (refine wpList_append_mine rfl (.tmp 129) (.tmp 132) 42 42 rfl 46 i2 (.agg #[.int .i64 0, .int .i64 0, .int .i64 0, .int .i64 0, .int .i64 0, .string noText, .string noText, .slice none 0 0]) 96 Try.underlying42 HI2.out HZ0.out HZ1.out HZ2.out rfl (by decide) rfl HM22.out HB22.out _ (ml - kk) (kvcells ((Rl.others L0 x.seq).drop kk)) rfl (HSd.out _) (by unfold maxLen; omega) (by omega) ?_; intro A23 c23 w23 hm23 hb23; have HM23 := Lib.hid hm23; have HB23 := Lib.hid hb23; have s4 := (HX.out w23 (below_next (below_next hbzc.out hb18.out) hb23)).2.2.2.2; have t4 := (BL.out.below (below_next (below_next hbzc.out hb18.out) hb23) BL.out.lt).frozen 4; clear hm23 hb23))
                  clear c0 c1 c2 c3' c4
                  have hz23 := Lib.hid (below_next (below_next hbzc.out hb18.out) HB23.out)
                  obtain ⟨c0, c1, c2, c3', c4⟩ := HX.out w23 hz23.out
                  obtain ⟨⟨z0, z1, z2, z3, z4⟩, f0, f1, f2, f3, f4⟩ := HZ.out w23 hz23.out
                  go_wp2
                  (try simp only [Exit.inBlock, Exit.then])
                  refine bodyPost_ret (by simp [results, Try.results53, asAddr, go_sem, c0, c1, c2, c3', c4, z0, z1, z2, z3, z4]; rfl) rfl ?_
                  have hbx := below_next hbw.out hz23.out
                  have hbz := below_five (B := w.heap.size) (g := g1 + 1 + 1) (hbx.setCell (p := ⟨g1, 4, none⟩) (by rw [HG.out]; exact Nat.le_refl _) (.slice A23 (kk + 1 + (ml - kk)) c23)) (by rw [HG.out]; exact Nat.le_add_right _ 2) (.int .i64 n) (.int .i64 v) (.int .i64 lo) (.slice A3 (m + 1) c3) (.slice A23 (kk + 1 + (ml - kk)) c23)
                  have hgz1 : g1 < wz.heap.size := BL.out.lt
                  have hgz2 : g1 + 1 + 1 < wz.heap.size := BR.out.lt
                  have hmz := ((HM4.out.below hz23.out).cell1 (g := g1) (j := 4) (by have := hgy.out; omega) (.slice A23 (kk + 1 + (ml - kk)) c23)).five (g := g1 + 1 + 1) hgy.out (.int .i64 n) (.int .i64 v) (.int .i64 lo) (.slice A3 (m + 1) c3) (.slice A23 (kk + 1 + (ml - kk)) c23)
                  have hm5 := ((HM5.out.below (below_next (below_next (below_next (below_next hb58.out hbr.out) hW.out) hb18.out) HB23.out)).cell1 (g := g1) (j := 4) hgz1 (.slice A23 (kk + 1 + (ml - kk)) c23)).five (g := g1 + 1 + 1) hgz2 (.int .i64 n) (.int .i64 v) (.int .i64 lo) (.slice A3 (m + 1) c3) (.slice A23 (kk + 1 + (ml - kk)) c23)
                  have hsz18 := Nat.le_trans hbzc.out.size hb18.out.size
                  have hk23 := (HM23.out.cell1 (g := g1) (j := 4) (by omega) (.slice A23 (kk + 1 + (ml - kk)) c23)).five (g := g1 + 1 + 1) (by omega) (.int .i64 n) (.int .i64 v) (.int .i64 lo) (.slice A3 (m + 1) c3) (.slice A23 (kk + 1 + (ml - kk)) c23)
                  have hRc : kvcells ((Rl.others L0 x.seq).take kk) ++ [.int .i64 11, .int .i64 v, .int .i64 x.seq, .int .i64 0, .int .i64 0, .string p.digest, .string p.batch, .slice (some ⟨b5, o5, none⟩) q c5] ++ kvcells ((Rl.others L0 x.seq).drop kk) = kvcells ((Rl.others L0 x.seq).take kk ++ (⟨11, v, x.seq, p.digest, p.batch, ag.take q⟩, .slice (some ⟨b5, o5, none⟩) q c5) :: (Rl.others L0 x.seq).drop kk) := by
                    rw [List.append_assoc, kvcells_append]; rfl
                  rw [hRc] at hk23
                  have hlt5 : (ag.take q).length = q := by rw [List.length_take, hln.out]; omega
                  have hRl : ((Rl.others L0 x.seq).take kk ++ (⟨11, v, x.seq, p.digest, p.batch, ag.take q⟩, .slice (some ⟨b5, o5, none⟩) q c5) :: (Rl.others L0 x.seq).drop kk).length = (kk + 1 + (ml - kk)) := by
                    rw [List.length_append, List.length_take, List.length_cons, List.length_drop, hml.out]; omega
                  refine takenTo EB.out hLl.out (by show (List.map Prod.fst _).length = _; rw [List.length_map]; exact hRl) hv.out hl.out rfl hbz fun W' hs hb hp => ?_
                  have hwc18 := Nat.le_trans hbwc.out.size hb18.out.size
                  refine ⟨((hmz.carry hs fun b h1 h2 => hb b (by have := hgy.out; have := HG.out; omega) h2).irow hLl.out).2, (Mine.kvrow (hk23.carry hs fun b h1 h2 => hb b (by omega) h2) hRl fun pz hpz => ?_).2⟩
                  rcases List.mem_append.1 hpz with hpz | hpz
                  · exact hp.2.2 pz (List.mem_filter.1 (List.mem_of_mem_take hpz)).1
                  · rcases List.mem_cons.1 hpz with rfl | hpz
                    · exact ⟨some ⟨b5, o5, none⟩, c5, by show _ = Value.slice _ (ag.take q).length _; rw [hlt5], (Mine.srow (hm5.carry hs fun b h1 h2 => hb b (Nat.le_trans hbw.out.size h1) h2) hln.out hlq).2⟩
                    · exact hp.2.2 pz (List.mem_filter.1 (List.mem_of_mem_drop hpz)).1
end Go.Proofs.Ytedndjbhgbdpoaa
