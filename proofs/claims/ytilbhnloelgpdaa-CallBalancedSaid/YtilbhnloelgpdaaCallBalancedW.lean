/- The walk of CallBalanced: a clearing buys just as much as it sells; nobody beyond the limit, none more than the order has; what is left stands. -/
import Derived.Test.YtilbhnloelgpdaaSideT
namespace Go.Proofs.Ytilbhnloelgpdaa
open Go.RowKit
set_option linter.unusedVariables false
set_option linter.unusedSimpArgs false
theorem got_take (F : List Fil) (id : Int) {k : Nat} (h : k < F.length) : Bk.got (F.take (k + 1)) id = Bk.got (F.take k) id + (if (F.getD k fil0).id = id then (F.getD k fil0).amount else 0) := by
  rw [List.take_succ_eq_append_getElem h, Ca.got_append, List.getD_eq_getElem?_getD, List.getElem?_eq_getElem h]
  congr 1
  rw [Bk.got_cons]
  simp [Bk.got]
theorem got_bound {F : List Fil} (hF : ∀ f ∈ F, 0 ≤ f.amount ∧ f.amount ≤ 1048576) (id : Int) : ∀ k : Nat, 0 ≤ Bk.got (F.take k) id ∧ Bk.got (F.take k) id ≤ 1048576 * k
  | 0 => by simp [Bk.got]
  | k + 1 => by
    have ih := got_bound hF id k
    by_cases h : k < F.length
    · rw [got_take F id h]
      have hm : F.getD k fil0 ∈ F := by rw [List.getD_eq_getElem?_getD, List.getElem?_eq_getElem h]; exact List.getElem_mem h
      have := hF _ hm
      push_cast
      split <;> omega
    · rw [List.take_of_length_le (by omega), ← List.take_of_length_le (l := F) (i := k) (by omega)]; push_cast; omega
/-- What a fill of an order's number says of the order. -/
theorem Bk.fill_at {b : Bk} (h : b.Ok) {f : Fil} (hf : f ∈ b.clear.2.2) {o : Ord} (ho : o ∈ b.l) (e : f.id = o.id) : 1 ≤ f.amount ∧ f.owner = o.owner ∧ (o.buys = true → b.clear.2.1.1 ≤ o.price) ∧ (o.buys = false → o.price ≤ b.clear.2.1.1) := by
  obtain ⟨q, h1, h2, h3, h4, h5, h6, h7⟩ := Bk.fill_of h hf
  have : q = o := Ca.id_inj h.ids h1 ho (by rw [← h2, e])
  subst this
  exact ⟨h4, h3, h6, h7⟩
theorem Bk.fills_amt {b : Bk} (h : b.Ok) : ∀ f ∈ b.clear.2.2, 0 ≤ f.amount ∧ f.amount ≤ 1048576 := fun f hf => by
  obtain ⟨q, h1, h2, h3, h4, h5, h6, h7⟩ := Bk.fill_of h hf
  have := Bk.amt h q h1
  omega
set_option maxHeartbeats 16000000 in
set_option maxRecDepth 100000 in
theorem CallBalanced_walk (W : World) (A : Option Addr) (len c : Nat) (L : List SAct) (hlen : L.length = len) (hlc : len ≤ c) (hcm : c ≤ maxLen) (h : SRow W A L) :
    Calls Try.prog 6 #[.slice A len c] W fun e w' => e = .returned (.bool true) ∧ Below W.heap.size W w' := by
  have HBe : Hid (Calls Try.prog 22 #[.slice A len c] W (Begins W (Bk.run L))) := Lib.hid (by
    have := begun_calls W A L c h (by unfold maxLen at hcm; omega)
    rwa [hlen] at this)
  have hok := Bk.run_ok L
  have HAw := Lib.hid (fun wx => awake_calls wx)
  clear h hlen hlc hcm
  generalize Bk.run L = B at HBe hok
  have HOk := Lib.hid hok
  have hSt := Lib.hid (Bk.sides hok true)
  have hSf := Lib.hid (Bk.sides hok false)
  have hfa := Lib.hid (Bk.fills_amt hok)
  have hfat := Lib.hid (fun (f : Fil) (hf : f ∈ B.clear.2.2) (o : Ord) (ho : o ∈ B.l) (e : f.id = o.id) => Bk.fill_at hok hf ho e)
  have hga := Lib.hid (fun (o : Ord) (ho : o ∈ B.l) => Bk.get_after hok ho)
  have hgr := Lib.hid (fun (o : Ord) (ho : o ∈ B.l) => Bk.got_range hok (Ca.cross B.l).1 (Ca.cross B.l).2 ho)
  have hgr2 : Hid (∀ (o : Ord) (ho : o ∈ B.l), 0 ≤ Bk.got B.clear.2.2 o.id ∧ Bk.got B.clear.2.2 o.id ≤ o.amount) := Lib.hid hgr.out
  have hn0 := (Bk.cross_n hok).1
  have hamt := Lib.hid (Bk.amt hok)
  have hfew := hok.few
  have hff : B.clear.2.2.length ≤ 128 := Ca.fills_few _ _ _
  have hcl : B.clear.1.l.length ≤ B.l.length := by
    show (Bk.after B.l _).length ≤ _
    unfold Bk.after
    have := List.length_filter_le (fun o : Ord => !(o.amount == 0)) ((Ca.fills B.l (Ca.cross B.l).1 (Ca.cross B.l).2).foldl Bk.less B.l)
    rwa [Bk.fold_length] at this
  have hn0' : 0 ≤ B.clear.2.1.2 := hn0
  have HOrd := Lib.hid (fun w g gl (h : AtB w g gl B) => orders_calls w g gl B h)
  have HCl := Lib.hid (fun w g gl (h : AtB w g gl B) => clear_calls w g gl B h)
  have HOr2 := Lib.hid (fun w g gl (h : AtB w g gl B.clear.1) => orders_calls w g gl B.clear.1 h)
  have HGt := Lib.hid (fun w g gl (h : AtB w g gl B.clear.1) id => get_calls w g gl B.clear.1 h id)
  clear hok hgr hn0
  unfold Cleared at HCl
  unfold Listed at HOrd HOr2
  generalize B.clear = C at *
  obtain ⟨C1, ⟨P, N⟩, F⟩ := C
  simp only at *
  generalize B.l = Lw at *
  obtain ⟨n, hn⟩ : ∃ n, Hid (Lw.length = n) := ⟨_, Lib.hid rfl⟩
  obtain ⟨kk, hk⟩ : ∃ k, Hid (F.length = k) := ⟨_, Lib.hid rfl⟩
  obtain ⟨m2, hm2⟩ : ∃ m2, Hid (C1.l.length = m2) := ⟨_, Lib.hid rfl⟩
  rw [hn.out] at hfew hcl
  rw [hm2.out] at hcl
  rw [hk.out] at hff hSt hSf
  have HSd : Hid (∀ wx A2 c2 Af cf, ORow wx A2 Lw → FRow wx Af F → ∀ sd, Calls Try.prog 25 #[.slice A2 n c2, .slice Af kk cf, .bool sd] wx (Told wx (.int .i64 (Ca.sdTo Lw F sd kk)))) := Lib.hid fun wx A2 c2 Af cf h1 h2 sd => by
    have := side_calls wx A2 Af Lw F c2 cf h1 h2 (by rw [hn.out]; exact hfew) (by rw [hk.out]; exact hff) hfa.out sd
    rwa [hn.out, hk.out] at this
  go_enter Try.func6, Try.ntmps6
  go_upto_region 2 with (go_at_call 22; (with_reducible refine HBe.out.mono ?_); rintro e w1 ⟨g, rfl, gl, hat, hg0, hgl0, hb1⟩; have HT1 := Lib.hid hat; have hgg : Hid (W.heap.size ≤ g ∧ (∀ k, gl = some k → W.heap.size ≤ k)) := Lib.hid ⟨hg0, hgl0⟩; have HB1 := Lib.hid hb1; clear hat hg0 hgl0 hb1)
  have hlt : Hid (g < w1.heap.size ∧ (∀ k, gl = some k → k < w1.heap.size)) := Lib.hid ⟨HT1.out.lt, fun k e => by
    obtain ⟨_, _, _, ho⟩ := HT1.out.box
    exact ho.lt e⟩
  go_upto_region 3 with (go_at_call 23; (with_reducible refine (HOrd.out _ _ _ HT1.out).mono ?_); rintro e w2 ⟨A2, c2, rfl, hm, hh⟩; rw [hn.out] at hm ⊢; have HM2 := Lib.hid hm; have HB2 := Lib.hid hh; clear hm hh)
  have HT2 := Lib.hid (HT1.out.below HB2.out)
  go_upto_region 4 with (go_at_call 24; (with_reducible refine (HCl.out _ _ _ HT2.out).mono ?_); rintro e w3 ⟨Af, cf, rfl, hm, hat, hon⟩; rw [hk.out] at hm ⊢; have HF3 := Lib.hid hm; have HT3 := Lib.hid hat; have HO3 := Lib.hid hon; clear hm hat hon)
  have HM3 : Hid (Mine w1 w3 6 (.slice A2 n c2) n (ocells Lw)) := Lib.hid (HM2.out.only HO3.out fun x hx => by
    rcases hx with rfl | hx
    · exact hlt.out.1
    · exact hlt.out.2 x hx.symm)
  have HB3 : Hid (Below W.heap.size W w3) := Lib.hid ((below_next HB1.out HB2.out).trans (HO3.out.below (below_next HB1.out HB2.out).size fun x hx => by
    rcases hx with rfl | hx
    · exact hgg.out.1
    · exact hgg.out.2 x hx.symm))
  have HR3 := Lib.hid (HM3.out.orow hn.out).2
  have HQ3 := Lib.hid (HF3.out.frow hk.out).2
  clear HT1 HT2 HM2 HM3 HF3 HO3 HB1 HB2 hlt hgg
  go_upto_region 5 with (go_at_call 23; (with_reducible refine (HOr2.out _ _ _ HT3.out).mono ?_); rintro e w4 ⟨A4, c4, rfl, hm, hh⟩; rw [hm2.out] at hm ⊢; have HB4 := Lib.hid hh; clear hm hh)
  have HS1 : Hid (∀ wx, Below w3.heap.size w3 wx → Calls Try.prog 25 #[.slice A2 n c2, .slice Af kk cf, .bool true] wx (Told wx (.int .i64 N))) := Lib.hid fun wx hb => by
    have := HSd.out wx A2 c2 Af cf (HR3.out.below hb) (HQ3.out.below hb) true
    rwa [hSt.out] at this
  have HS2 : Hid (∀ wx, Below w3.heap.size w3 wx → Calls Try.prog 25 #[.slice A2 n c2, .slice Af kk cf, .bool false] wx (Told wx (.int .i64 N))) := Lib.hid fun wx hb => by
    have := HSd.out wx A2 c2 Af cf (HR3.out.below hb) (HQ3.out.below hb) false
    rwa [hSf.out] at this
  have hNN : (N != N) = false := by simp
  go_upto_region 8 with (go_at_call 25; first
    | ((with_reducible refine (HS1.out _ HB4.out).mono ?_); rintro e w5 ⟨rfl, hh⟩; have HB5 := Lib.hid (below_next HB4.out hh); clear hh)
    | ((with_reducible refine (HS2.out _ HB5.out).mono ?_); rintro e w6 ⟨rfl, hh⟩; have HB6 := Lib.hid (below_next HB5.out hh); clear hh))
  clear HS1 HS2 hNN HSd HBe HOrd HOr2 HCl hSt hSf
  go_loopg [9] (n + 1) (fun gk s9 wr => ∃ i : Nat, gk = n + 1 - i ∧ i ≤ n ∧ s9 = .int .i64 (i : Int) ∧ Hid (Below w3.heap.size w3 wr))
  case atStart => exact ⟨0, rfl, Nat.zero_le _, rfl, HB6⟩
  case round =>
    clear HB6 HB5 HB4
    obtain ⟨i, rfl, hi, rfl, hbo⟩ := hrel
    have i0 : (0 : Int) ≤ (i : Int) := by omega
    by_cases hil : i < n
    · have hiI : (i : Int) < (n : Int) := by omega
      have hiL : Hid (i < Lw.length) := Lib.hid (by rw [hn.out]; exact hil)
      have HMo := Lib.hid (show n + 1 - (i + 1) < n + 1 - i by omega)
      obtain ⟨b, o, rfl⟩ : ∃ b o, A2 = some ⟨b, o, none⟩ := by
        obtain ⟨b, o, e, _⟩ := HR3.out.cells hiL.out
        exact ⟨b, o, e⟩
      have HC := Lib.hid (fun wx hh => ORow.six HR3.out hiL.out (w' := wx) hh)
      have hmo : Hid (Lw.getD i ord0 ∈ Lw) := Lib.hid (getD_mem hiL.out)
      have hgi := Lib.hid (hga.out _ hmo.out)
      have hgi2 := Lib.hid (hgr2.out _ hmo.out)
      have hat := Lib.hid (fun (f : Fil) (hf : f ∈ F) e => hfat.out f hf _ hmo.out e)
      have hoa := Lib.hid (hamt.out _ hmo.out)
      have hbq := Lib.hid (got_bound hfa.out (Lw.getD i ord0).id)
      have hsq := Lib.hid (fun k hk => got_take F (Lw.getD i ord0).id (k := k) hk)
      have hgz : Hid (Bk.got (F.take 0) (Lw.getD i ord0).id = 0) := Lib.hid (by simp [Bk.got])
      have hga' : Hid (Bk.got (F.take kk) (Lw.getD i ord0).id = Bk.got F (Lw.getD i ord0).id) := Lib.hid (by rw [List.take_of_length_le (by rw [hk.out]; exact Nat.le_refl _)])
      generalize Lw.getD i ord0 = q at HC hmo hgi hgi2 hat hoa hbq hsq hgz hga'
      obtain ⟨qi, qo, qp, qa, qpl, qb⟩ := q
      simp only at HC
      go_upto_region 12 with (fail)
      go_loopg [10, 11] (kk + 1) (fun gk s10 s11 wr => ∃ k : Nat, gk = kk + 1 - k ∧ k ≤ kk ∧ s11 = .int .i64 (k : Int) ∧ s10 = .int .i64 (Bk.got (F.take k) qi) ∧ Hid (Below w3.heap.size w3 wr))
      case atStart => exact ⟨0, rfl, Nat.zero_le _, rfl, by rw [hgz.out], hbo⟩
      case round =>
        clear hbo
        obtain ⟨k, rfl, hkk, rfl, rfl, hb⟩ := hrel
        have k0 : (0 : Int) ≤ (k : Int) := by omega
        obtain ⟨c0, c1, c2', c3, c4, c5⟩ := HC.out wr hb.out
        by_cases hkl : k < kk
        · have hkI : (k : Int) < (kk : Int) := by omega
          have hkL : Hid (k < F.length) := Lib.hid (by rw [hk.out]; exact hkl)
          have HM := Lib.hid (show kk + 1 - (k + 1) < kk + 1 - k by omega)
          obtain ⟨fb, fo, rfl⟩ : ∃ b o, Af = some ⟨b, o, none⟩ := by
            obtain ⟨b, o, e, _⟩ := HQ3.out.cells hkL.out
            exact ⟨b, o, e⟩
          obtain ⟨d0, d1, d2⟩ := FRow.three HQ3.out hkL.out hb.out
          have hN := Lib.hid (hsq.out k hkL.out)
          have hb0 := hbq.out k
          have hb1 := hbq.out (k + 1)
          have hfm := Lib.hid (hat.out (F.getD k fil0) (by rw [List.getD_eq_getElem?_getD, List.getElem?_eq_getElem hkL.out]; exact List.getElem_mem hkL.out))
          generalize F.getD k fil0 = f at d0 d1 d2 hN hfm
          obtain ⟨fi, fw, fa⟩ := f
          simp only at d0 d1 d2
          generalize Bk.got (F.take k) qi = G at hN hb0 ⊢
          by_cases hid : fi = qi
          · subst hid
            obtain ⟨f1, f2, f3, f4⟩ := hfm.out rfl
            have hid1 : (fi == fi) = true := by simp
            have hN' := hN.out
            rw [if_pos rfl] at hN'
            have HN : Hid (Bk.got (F.take (k + 1)) fi = G + fa) := Lib.hid hN'
            have qs : IntKind.i64.wrap (G + fa) = G + fa := by
              rw [hN'] at hb1
              have hb1' : 0 ≤ G + fa ∧ G + fa ≤ 1048576 * ((k + 1 : Nat) : Int) := hb1
              rw [IntKind.wrap_i64]; omega
            have f2' : fw = qo := f2
            subst f2'
            have f1' : ¬ fa < 1 := by have : 1 ≤ fa := f1; omega
            have f1d : decide (fa < 1) = false := by simpa using f1'
            have hww : (fw != fw) = false := by simp
            clear hN hN' hb0 hb1 f1 f2 hfm
            cases qb with
            | true =>
              have f5 : ¬ qp < P := by have : P ≤ qp := f3 rfl; omega
              have f6 : decide (qp < P) = false := by simpa using f5
              clear f3 f4
              go_wp2_with (fail)
              go_quiet (fail)
              go_wp2_with (fail)
              go_quiet (fail)
              go_wp2
              go_roundg (kk + 1 - (k + 1))
              case measure => exact HM.out
              case rel => exact ⟨k + 1, rfl, by omega, by first | rfl | go_num, by rw [HN.out], Lib.hid (by first | exact below_draw hb.out _ | exact below_draw (below_draw hb.out _) _)⟩
            | false =>
              have f5 : ¬ P < qp := by have : qp ≤ P := f4 rfl; omega
              have f6 : decide (P < qp) = false := by simpa using f5
              clear f3 f4
              go_wp2_with (fail)
              go_quiet (fail)
              go_wp2_with (fail)
              go_quiet (fail)
              go_wp2
              go_roundg (kk + 1 - (k + 1))
              case measure => exact HM.out
              case rel => exact ⟨k + 1, rfl, by omega, by first | rfl | go_num, by rw [HN.out], Lib.hid (by first | exact below_draw hb.out _ | exact below_draw (below_draw hb.out _) _)⟩
          · have hid1 : (fi == qi) = false := by simpa using hid
            have hN' := hN.out
            rw [if_neg hid] at hN'
            have HN : Hid (Bk.got (F.take (k + 1)) qi = G) := Lib.hid (by rw [hN']; omega)
            clear hN hN' hb0 hb1 hfm hid
            go_wp2_with (fail)
            go_quiet (fail)
            go_wp2
            go_roundg (kk + 1 - (k + 1))
            case measure => exact HM.out
            case rel => exact ⟨k + 1, rfl, by omega, by first | rfl | go_num, by rw [HN.out], Lib.hid (below_draw hb.out _)⟩
        · obtain rfl : kk = k := by omega
          rw [hga'.out]
          have hgi' := hgi.out
          have hg2 := hgi2.out
          have hoa' := hoa.out
          (try simp only at hgi' hg2 hoa')
          generalize Bk.got F qi = G at hgi' hg2 ⊢
          have HG := Lib.hid (fun wx hh => HGt.out wx g gl (HT3.out.below hh) qi)
          rw [hgi'] at HG
          have hgq : ¬ qa < G := by omega
          have hgd : decide (qa < G) = false := by simpa using hgq
          by_cases hless : G < qa
          · rw [if_pos hless] at HG
            unfold oval at HG
            (try simp only at HG)
            go_upto_region 19 with (go_at_call 26; (with_reducible refine (HG.out _ hb.out).mono ?_); rintro e w7 ⟨rfl, hh⟩; have HB7 := Lib.hid (below_next hb.out hh); clear hh)
            have hbx : Hid (Below w3.heap.size w3 (w7.alloc (.cells #[.int .i64 qi, .int .i64 qo, .int .i64 qp, .int .i64 (qa-G), .int .i64 qpl, .bool qb] 33))) := Lib.hid (HB7.out.alloc HB7.out.size _)
            have BA := Lib.hid (Blk.new w7 33 #[.int .i64 qi, .int .i64 qo, .int .i64 qp, .int .i64 (qa-G), .int .i64 qpl, .bool qb])
            obtain ⟨g1, hg1⟩ : ∃ g1, Hid (w7.heap.size = g1) := ⟨_, Lib.hid rfl⟩
            rw [hg1.out] at BA ⊢
            clear c0 c1 c2' c3 c4 c5
            generalize World.alloc w7 _ = wx at hbx BA ⊢
            obtain ⟨c0, c1, c2', c3, c4, c5⟩ := HC.out wx hbx.out
            clear c0 c1 c5
            obtain ⟨e2, e3, e4⟩ : wx.cell? ⟨g1, 2, none⟩ = some (.int .i64 qp) ∧ wx.cell? ⟨g1, 3, none⟩ = some (.int .i64 (qa - G)) ∧ wx.cell? ⟨g1, 4, none⟩ = some (.int .i64 qpl) := ⟨BA.out.cell 2, BA.out.cell 3, BA.out.cell 4⟩
            have hx1 : ((qa - G) != (qa - G)) = false := by simp
            have hx2 : (qpl != qpl) = false := by simp
            have hx3 : (qp != qp) = false := by simp
            have qs : IntKind.i64.wrap (qa - G) = qa - G := by rw [IntKind.wrap_i64]; omega
            have hl1 : decide (G < qa) = true := by simpa using hless
            clear hg2 hoa'
            go_quiet (fail)
            go_wp2
            go_roundg (n + 1 - (i + 1))
            case measure => exact HMo.out
            case rel => exact ⟨i + 1, rfl, by omega, by first | rfl | go_num, Lib.hid (below_draw hbx.out _)⟩
          · rw [if_neg hless] at HG
            unfold oval ord0 at HG
            (try simp only at HG)
            go_upto_region 19 with (go_at_call 26; (with_reducible refine (HG.out _ hb.out).mono ?_); rintro e w7 ⟨rfl, hh⟩; have HB7 := Lib.hid (below_next hb.out hh); clear hh)
            have hbx : Hid (Below w3.heap.size w3 (w7.alloc (.cells #[.int .i64 0, .int .i64 0, .int .i64 0, .int .i64 0, .int .i64 0, .bool false] 33))) := Lib.hid (HB7.out.alloc HB7.out.size _)
            have BA := Lib.hid (Blk.new w7 33 #[.int .i64 0, .int .i64 0, .int .i64 0, .int .i64 0, .int .i64 0, .bool false])
            obtain ⟨g1, hg1⟩ : ∃ g1, Hid (w7.heap.size = g1) := ⟨_, Lib.hid rfl⟩
            rw [hg1.out] at BA ⊢
            clear c0 c1 c2' c3 c4 c5
            generalize World.alloc w7 _ = wx at hbx BA ⊢
            obtain ⟨c0, c1, c2', c3, c4, c5⟩ := HC.out wx hbx.out
            clear c0 c1 c5
            have hl1 : decide (G < qa) = false := by simpa using hless
            clear hg2 hoa'
            go_quiet (fail)
            go_wp2
            go_roundg (n + 1 - (i + 1))
            case measure => exact HMo.out
            case rel => exact ⟨i + 1, rfl, by omega, by first | rfl | go_num, Lib.hid (below_draw hbx.out _)⟩
    · obtain rfl : n = i := by omega
      have hclI : (m2 : Int) ≤ (n : Int) := by omega
      go_wp2_with (go_at_call 20; (with_reducible refine (HAw.out _).mono ?_); rintro e w8 ⟨rfl, hh⟩; have HB8 := Lib.hid (below_next hbo.out hh); clear hh)
      refine bodyPost_ret (by simp [results, Try.results6, asAddr, go_sem]; rfl) rfl ?_
      exact ⟨rfl, HB3.out.trans (HB8.out.mono HB3.out.size)⟩
end Go.Proofs.Ytilbhnloelgpdaa
