/- Clear. -/
import Derived.Test.YtilbhnloelgpdaaBkC1
import Derived.Deep.RegionWith
namespace Go.Proofs.Ytilbhnloelgpdaa
open Go.RowKit
set_option linter.unusedVariables false
set_option linter.unusedSimpArgs false
theorem Ca.cross_range (l : List Ord) : 0 ≤ (Ca.cross l).2 ∧ (Ca.cross l).2 ≤ 67108864 := by
  have hB := Ca.cross_best (Ca.rights l)
  have h0 : 0 ≤ (Ca.cross l).2 := hB.pos
  refine ⟨h0, ?_⟩
  by_cases hp : 0 < (Ca.cross l).2
  · obtain ⟨o, _, _, h3⟩ := hB.own hp
    have h4 := Ca.bought_bound (l := Ca.rights l) Ca.rights_amount o.price
    have h5 := Ca.rights_few l
    have h6 : Ca.traded (Ca.rights l) o.price = (Ca.cross l).2 := h3
    unfold Ca.traded at h6
    omega
  · omega
theorem over_amount (F : List Ord) {i : Nat} (h : i < F.length) (v : Int) : over (ocells F) (i * 6 + 3) [.int .i64 v] = ocells (F.set i { F.getD i ord0 with amount := v }) := by
  have hg : F.getD i ord0 = F[i] := by rw [List.getD_eq_getElem?_getD, List.getElem?_eq_getElem h]; rfl
  have e : F = F.take i ++ F[i] :: F.drop (i + 1) := by rw [← List.drop_eq_getElem_cons h, List.take_append_drop]
  have e1 : (ocells (F.take i)).length = i * 6 := by rw [ocells_length, List.length_take, Nat.min_eq_left (by omega)]
  have e2 : ocells F = ocells (F.take i) ++ (ocell F[i] ++ ocells (F.drop (i + 1))) := by
    conv => lhs; rw [e]
    rw [ocells_append]; rfl
  have e3 : F.set i { F.getD i ord0 with amount := v } = F.take i ++ { F.getD i ord0 with amount := v } :: F.drop (i + 1) := by rw [List.set_eq_take_append_cons_drop, if_pos h]
  unfold over
  rw [e3, ocells_append, e2, List.take_append, List.drop_append, e1, List.take_of_length_le (l := ocells (List.take i F)) (by omega), List.drop_of_length_le (l := ocells (List.take i F)) (by simp only [List.length_cons, List.length_nil]; omega), show i * 6 + 3 - i * 6 = 3 from by omega, show i * 6 + 3 + [Value.int .i64 v].length - i * 6 = 4 from by simp; omega, hg, List.nil_append, List.append_assoc, List.append_assoc]
  rfl
theorem Mine.far {w0 w : World} {sz n : Nat} {v : Value} {xs : List Value} (h : Mine w0 w sz v n xs) {g : Nat} (hg : g < w0.heap.size) (j : Nat) (u : Value) : Mine w0 (w.setCell ⟨g, j, none⟩ u) sz v n xs :=
  h.carry (by simp) fun k hk _ => heap_setCell_other w ⟨g, j, none⟩ k u (by rintro rfl; exact absurd hg (Nat.not_lt.2 hk))
theorem Mine.only {w0 w w' : World} {sz n : Nat} {v : Value} {xs : List Value} (h : Mine w0 w sz v n xs) {S : Nat → Prop} (ho : Only S w w') (hS : ∀ k, S k → k < w0.heap.size) : Mine w0 w' sz v n xs :=
  h.carry ho.size fun k hk hl => ho.block k hl fun hs => absurd (hS k hs) (Nat.not_lt.2 hk)
theorem Own.amount {w : World} {n c b o : Nat} {gl : Option Nat} {F : List Ord} (h : Own w 6 (.slice (some ⟨b, o, none⟩) n c) gl n (ocells F)) (hF : F.length = n) {i : Nat} (hi : i < n) (v : Int) :
    gl = some b ∧ (∃ x, w.cell? ⟨b, o + i * 6 + 3, none⟩ = some x) ∧ w.frozen? ⟨b, o + i * 6 + 3, none⟩ = false ∧ Own (w.setCell ⟨b, o + i * 6 + 3, none⟩ (.int .i64 v)) 6 (.slice (some ⟨b, o, none⟩) n c) gl n (ocells (F.set i { F.getD i ord0 with amount := v })) := by
  obtain ⟨g, off, e1, e2, h1, h2⟩ := h.over (p := i * 6 + 3) (vs := [.int .i64 v]) (by simp; omega) (by simp)
  cases e2
  have h3 := h1 0 (by simp)
  rw [over_amount F (by omega)] at h2
  refine ⟨e1, ?_, ?_, ?_⟩
  · obtain ⟨x, hx⟩ := Option.isSome_iff_exists.1 h3.1
    exact ⟨x, by rw [Nat.add_assoc]; exact hx⟩
  · rw [Nat.add_assoc]; exact h3.2
  · rw [Nat.add_assoc]; exact h2
def Cleared (w : World) (g : Nat) (gl : Option Nat) (b : Bk) (e : Ending) (w' : World) : Prop :=
  ∃ A c, e = .returned (.tuple #[.int .i64 b.clear.2.1.1, .int .i64 b.clear.2.1.2, .slice A b.clear.2.2.length c]) ∧ Mine w w' 3 (.slice A b.clear.2.2.length c) b.clear.2.2.length (fcells b.clear.2.2) ∧ AtB w' g gl b.clear.1 ∧ Only (fun k => k = g ∨ some k = gl) w w'
set_option maxHeartbeats 16000000 in
set_option maxRecDepth 100000 in
theorem clear_calls (w : World) (g : Nat) (gl : Option Nat) (b : Bk) (h : AtB w g gl b) : Calls Try.prog 24 #[.pointer (some ⟨g, 0, none⟩)] w (Cleared w g gl b) := by
  have hok := Lib.hid (Bk.clear_ok h.ok)
  obtain ⟨A, c, hB, hO⟩ := h.box
  have HB := Lib.hid hB
  have HO := Lib.hid hO
  have hglt : Hid (gl ≠ some g ∧ g < w.heap.size ∧ ∀ k, gl = some k → k < w.heap.size) := Lib.hid ⟨h.apart, h.lt, fun k hk => hO.lt hk⟩
  have hcr := Ca.cross_range b.l
  have HCr := Lib.hid (cross_calls w A b.l c (hO.orow rfl).2.2)
  have HFi := Lib.hid (fun wx (hb : Below w.heap.size w wx) => fills_calls wx A b.l c (Ca.cross b.l).1 (Ca.cross b.l).2 ((hO.orow rfl).2.2.below hb) (by omega))
  have hfew := h.ok.few
  have hff := Ca.fills_few b.l (Ca.cross b.l).1 (Ca.cross b.l).2
  have hfm : Hid (∀ f ∈ Ca.fills b.l (Ca.cross b.l).1 (Ca.cross b.l).2, (1 ≤ f.amount ∧ f.amount ≤ 1048576) ∧ Bk.ix b.l f.id < b.l.length) := Lib.hid fun f hf => by
    obtain ⟨o, ho, e1, _, h2, h3⟩ := Ca.fills_mem hf
    have h4 := Ca.rights_amount o ho
    rw [Bk.rights_all h.ok] at ho
    exact ⟨by omega, Bk.ix_mem.2 ⟨o, ho, e1.symm⟩⟩
  have hbd : Hid (∀ o ∈ b.l, -0 ≤ o.amount ∧ o.amount ≤ 1048576) := Lib.hid fun o ho => by
    have := (Ord.right_iff o).1 (h.ok.right o ho)
    omega
  unfold Cleared Bk.clear at *
  simp only at *
  generalize Ca.fills b.l (Ca.cross b.l).1 (Ca.cross b.l).2 = F at *
  obtain ⟨p, hp⟩ : ∃ p, Hid ((Ca.cross b.l).1 = p) := ⟨_, Lib.hid rfl⟩
  obtain ⟨amt, hamt⟩ : ∃ amt, Hid ((Ca.cross b.l).2 = amt) := ⟨_, Lib.hid rfl⟩
  rw [hp.out, hamt.out] at HCr HFi ⊢
  obtain ⟨n, hn⟩ : ∃ n, Hid (b.l.length = n) := ⟨_, Lib.hid rfl⟩
  obtain ⟨k, hk⟩ : ∃ k, Hid (F.length = k) := ⟨_, Lib.hid rfl⟩
  obtain ⟨nx, hnx⟩ : ∃ nx, Hid (b.next = nx) := ⟨_, Lib.hid rfl⟩
  rw [hn.out] at HB HO HCr HFi hfew hfm
  rw [hnx.out] at HB hok ⊢
  rw [hk.out] at hff ⊢
  clear h hB hO hcr
  go_enter Try.func24, Try.ntmps24
  have x0 := HB.out.cell 0
  simp at x0
  go_upto_region 3 with (go_at_call 14; (with_reducible refine HCr.out.mono ?_); rintro e w1 ⟨rfl, hh⟩; have hb1 := Lib.hid hh; clear hh)
  clear x0
  have x0 := (HB.out.below hb1.out HB.out.lt).cell 0
  simp at x0
  have HFi1 := Lib.hid (HFi.out _ hb1.out)
  go_upto_region 5 with (go_at_call 16; (with_reducible refine HFi1.out.mono ?_); rintro e w2 ⟨Af, cf, rfl, hmf, hh⟩; rw [hk.out] at hmf ⊢; have hb2 := Lib.hid (below_next hb1.out hh); have HMf := Lib.hid (hmf.base hb1.out.size); clear hh hmf)
  have HBG := Lib.hid (HB.out.below hb2.out HB.out.lt)
  have HOw : Hid (Own w2 6 (.slice A n c) gl n (ocells (Bk.ln b.l F 0))) := Lib.hid (by rw [Bk.ln_zero]; exact HO.out.below hb2.out)
  have HOn : Hid (Only (fun x => x = g ∨ some x = gl) w w2) := Lib.hid (Only.of_below hb2.out)
  clear x0 HB HO HCr HFi HFi1 hb1 hb2
  go_loopg [26] (k + 1) (fun gk s26 wr => ∃ j : Nat, gk = k + 1 - j ∧ j ≤ k ∧ s26 = .int .i64 (j : Int) ∧ Hid (Own wr 6 (.slice A n c) gl n (ocells (Bk.ln b.l F j))) ∧ Hid (Blk wr g 76 #[.slice A n c, .int .i64 nx]) ∧ Hid (Only (fun x => x = g ∨ some x = gl) w wr) ∧ Hid (Mine w wr 3 (.slice Af k cf) k (fcells F)))
  case atStart => exact ⟨0, rfl, Nat.zero_le _, rfl, HOw, HBG, HOn, HMf⟩
  case round =>
    clear HOw HBG HOn HMf
    obtain ⟨j, rfl, hj, rfl, HOw, HBG, HOn, HMf⟩ := hrel
    have hlen : Hid ((Bk.ln b.l F j).length = n) := Lib.hid (by unfold Bk.ln; rw [Bk.fold_length, hn.out])
    by_cases hjk : j < k
    · have j0 : (0 : Int) ≤ (j : Int) := by omega
      have hjI : (j : Int) < (k : Int) := by omega
      have hjL : Hid (j < F.length) := Lib.hid (by rw [hk.out]; exact hjk)
      have hFR := Lib.hid (HMf.out.frow hk.out).2
      obtain ⟨fb, fo, rfl⟩ : ∃ b o, Af = some ⟨b, o, none⟩ := by
        obtain ⟨b, o, e, _⟩ := hFR.out.cells hjL.out
        exact ⟨b, o, e⟩
      obtain ⟨y0, y1, y2⟩ := FRow.three hFR.out hjL.out (Below.refl _ _)
      have hfin := hfm.out (F.getD j fil0) (by rw [List.getD_eq_getElem?_getD, List.getElem?_eq_getElem hjL.out]; exact List.getElem_mem hjL.out)
      have hixe : Bk.ix (Bk.ln b.l F j) (F.getD j fil0).id = Bk.ix b.l (F.getD j fil0).id := Bk.ix_map (Bk.ids_of (by unfold Bk.ln; exact Bk.fold_map _ _)) _
      rw [← hixe] at hfin
      have hnx2 := Lib.hid (Bk.ln_next b.l F hjL.out)
      have hbnd := Bk.fold_bound (L := b.l) (F := F.take j) (fun f hf => (hfm.out f (List.mem_of_mem_take hf)).1) (B := 0) hbd.out
      have HM := Lib.hid (show k + 1 - (j + 1) < k + 1 - j by omega)
      clear hixe
      unfold Bk.less at hnx2
      generalize F.getD j fil0 = f at y0 y1 y2 hfin hnx2
      obtain ⟨fi, fw, fa⟩ := f
      simp only at y0 y1 y2 hfin hnx2
      have hln : Hid (Bk.ln b.l F j = (F.take j).foldl Bk.less b.l) := Lib.hid rfl
      rw [← hln.out] at hbnd
      have htk : (F.take j).length ≤ 128 := by rw [List.length_take]; omega
      obtain ⟨LJ, hLJ⟩ : ∃ LJ, Hid (Bk.ln b.l F j = LJ) := ⟨_, Lib.hid rfl⟩
      rw [hLJ.out] at HOw hlen hfin hnx2 hbnd
      obtain ⟨i, hie⟩ : ∃ i, Hid (Bk.ix LJ fi = i) := ⟨_, Lib.hid rfl⟩
      rw [hie.out] at hfin hnx2
      obtain ⟨⟨fa1, fa2⟩, hin⟩ := hfin
      have hiL : Hid (i < LJ.length) := Lib.hid (by rw [hlen.out]; exact hin)
      have hab := hbnd _ (getD_mem hiL.out)
      have hAt : Hid (Bk.at_ LJ fi = (i : Int)) := Lib.hid (by rw [at_in (by rw [hie.out]; exact hiL.out), hie.out])
      obtain ⟨bb, oo, rfl⟩ : ∃ b o, A = some ⟨b, o, none⟩ := by
        obtain ⟨b, o, e, _⟩ := (HOw.out.orow hlen.out).2.2.cells hiL.out
        exact ⟨b, o, e⟩
      have HAt : Hid (∀ wx, Below wr.heap.size wr wx → Calls Try.prog 43 #[.pointer (some ⟨g, 0, none⟩), .int .i64 fi] wx (Told wx (.int .i64 (i : Int)))) := Lib.hid fun wx hb => by
        have := at_raw wx g (some ⟨bb, oo, none⟩) LJ c nx (by rw [hlen.out]; exact HBG.out.below hb HBG.out.lt) ((HOw.out.orow hlen.out).2.2.below hb) (by rw [hlen.out]; exact hfew) fi
        rwa [hAt.out] at this
      have HC6 := Lib.hid (fun wx (hb : Below wr.heap.size wr wx) => (ORow.six (HOw.out.orow hlen.out).2.2 hiL.out hb).2.2.2.1)
      have HA : Hid (∀ wx, Below wr.heap.size wr wx → ∀ v : Int, gl = some bb ∧ (∃ x, wx.cell? ⟨bb, oo + i * 6 + 3, none⟩ = some x) ∧ wx.frozen? ⟨bb, oo + i * 6 + 3, none⟩ = false ∧ Own (wx.setCell ⟨bb, oo + i * 6 + 3, none⟩ (.int .i64 v)) 6 (.slice (some ⟨bb, oo, none⟩) n c) gl n (ocells (LJ.set i ⟨(LJ.getD i ord0).id, (LJ.getD i ord0).owner, (LJ.getD i ord0).price, v, (LJ.getD i ord0).place, (LJ.getD i ord0).buys⟩))) := Lib.hid fun wx hb v => (HOw.out.below hb).amount hlen.out hin v
      generalize LJ.getD i ord0 = q at hnx2 hab HC6 HA
      obtain ⟨qi, qo, qp, qa, qpl, qb⟩ := q
      simp only at hnx2 hab HC6 HA
      have qs : IntKind.i64.wrap (qa - fa) = qa - fa := by rw [IntKind.wrap_i64]; omega
      have i0 : (0 : Int) ≤ (i : Int) := by omega
      have i1 : (i : Int) < (n : Int) := by omega
      clear hab hbnd htk fa1 fa2
      go_upto_region 7 with (fail)
      have hbx : Hid (Below wr.heap.size wr (wr.alloc (.cells #[.int .i64 fi, .int .i64 fw, .int .i64 fa] 44))) := Lib.hid ((Below.refl _ _).alloc (Nat.le_refl _) _)
      have BX := Lib.hid (Blk.new wr 44 #[.int .i64 fi, .int .i64 fw, .int .i64 fa])
      obtain ⟨kk, hkk⟩ : ∃ kk, Hid (wr.heap.size = kk) := ⟨_, Lib.hid rfl⟩
      rw [hkk.out] at BX ⊢
      clear y0 y1 y2
      generalize World.alloc wr _ = wx at hbx BX ⊢
      have HX : Hid (∀ wz, Below wx.heap.size wx wz → wz.cell? ⟨g, 0, none⟩ = some (.slice (some ⟨bb, oo, none⟩) n c) ∧ wz.cell? ⟨kk, 0, none⟩ = some (.int .i64 fi) ∧ wz.cell? ⟨kk, 2, none⟩ = some (.int .i64 fa) ∧ wz.cell? ⟨bb, oo + i * 6 + 3, none⟩ = some (.int .i64 qa) ∧ wz.frozen? ⟨bb, oo + i * 6 + 3, none⟩ = false) := Lib.hid fun wz hb => by
        have hbw := below_next hbx.out hb
        exact ⟨(HBG.out.below hbw HBG.out.lt).cell 0, (BX.out.below hb BX.out.lt).cell 0, (BX.out.below hb BX.out.lt).cell 2, HC6.out wz hbw, (HA.out wz hbw 0).2.2.1⟩
      have HT : Hid (∀ w3, Below wx.heap.size wx w3 → Hid (Own (w3.setCell ⟨bb, oo + i * 6 + 3, none⟩ (.int .i64 (qa - fa))) 6 (.slice (some ⟨bb, oo, none⟩) n c) gl n (ocells (Bk.ln b.l F (j + 1)))) ∧ Hid (Blk (w3.setCell ⟨bb, oo + i * 6 + 3, none⟩ (.int .i64 (qa - fa))) g 76 #[.slice (some ⟨bb, oo, none⟩) n c, .int .i64 nx]) ∧ Hid (Only (fun x => x = g ∨ some x = gl) w (w3.setCell ⟨bb, oo + i * 6 + 3, none⟩ (.int .i64 (qa - fa)))) ∧ Hid (Mine w (w3.setCell ⟨bb, oo + i * 6 + 3, none⟩ (.int .i64 (qa - fa))) 3 (.slice (some ⟨fb, fo, none⟩) k cf) k (fcells F))) := Lib.hid fun w3 hb => by
        have hbw := below_next hbx.out hb
        obtain ⟨e1, _, _, e4⟩ := HA.out w3 hbw (qa - fa)
        refine ⟨Lib.hid (by rw [hnx2.out]; exact e4), Lib.hid ((HBG.out.below hbw HBG.out.lt).far (fun e => hglt.out.1 (by rw [e1, e])) _), Lib.hid ((HOn.out.then_below hbw).setCell (.inl (.inr e1.symm)) _), Lib.hid ((HMf.out.below hbw).far (hglt.out.2.2 bb e1) _ _)⟩
      obtain ⟨x0, x1, x2, x3, x4⟩ := HX.out wx (Below.refl _ _)
      go_region_with (go_at_call 43; (with_reducible refine (HAt.out _ hbx.out.drew).mono ?_); rintro e w3 ⟨rfl, hh⟩; have hb3 : Below wx.heap.size wx w3 := below_next (Below.refl _ _).drew hh; clear hh; obtain ⟨z0, z1, z2, z3, z4⟩ := HX.out w3 hb3)
      all_goals
        have hT := HT.out w3 hb3
        go_wp2
        go_roundg (k + 1 - (j + 1))
        case measure => exact HM.out
        case rel => exact ⟨j + 1, rfl, by omega, by first | rfl | go_num, hT.1, hT.2.1, hT.2.2.1, hT.2.2.2⟩
    · obtain rfl : k = j := by omega
      have hlk : Hid (Bk.ln b.l F k = F.foldl Bk.less b.l) := Lib.hid (by unfold Bk.ln; rw [List.take_of_length_le (by rw [hk.out]; exact Nat.le_refl _)])
      have HDl := Lib.hid (deletez_calls wr A (Bk.ln b.l F k) c gl (by rw [hlen.out]; exact HOw.out) (by rw [hlen.out]; exact hfew))
      have haf : Hid ((Bk.ln b.l F k).filter Ord.live = Bk.after b.l F) := Lib.hid (by rw [hlk.out]; rfl)
      rw [haf.out, hlen.out] at HDl
      have x0 := HBG.out.cell 0
      simp at x0
      obtain ⟨m2, hm2⟩ : ∃ m2, Hid ((Bk.after b.l F).length = m2) := ⟨_, Lib.hid rfl⟩
      clear HOw hlen hjk
      go_upto_region 9 with (fail)
      go_wp2_with (go_at_call 44; (with_reducible refine HDl.out.mono ?_); rintro e w4 ⟨A4, c4, rfl, hO4, hOn4⟩; rw [hm2.out] at hO4 ⊢; have HO4 := Lib.hid hO4; have HOn4 := Lib.hid hOn4; have HB4 : Hid (Blk w4 g 76 #[.slice A n c, .int .i64 nx]) := Lib.hid (by
        have e := hOn4.block g HBG.out.lt fun e => hglt.out.1 e.symm
        have hh := HBG.out
        unfold Blk at hh ⊢
        rw [e]; exact hh); have z0 := HB4.out.cell 0; simp at z0; have z1 := HB4.out.frozen 0; clear hO4 hOn4)
      refine bodyPost_ret (by simp [results, Try.results24, asAddr, go_sem]; rfl) rfl ?_
      refine ⟨Af, cf, rfl, ?_, ⟨⟨A4, c4, ?_, ?_⟩, hglt.out.1, hok.out⟩, ?_⟩
      · exact (HMf.out.only HOn4.out fun x hx => hglt.out.2.2 x hx.symm).far hglt.out.2.1 _ _
      · show Blk _ g _ #[.slice A4 (Bk.after b.l F).length c4, .int .i64 nx]
        rw [hm2.out]
        exact (blk_two HB4.out _).1
      · show Own _ 6 (.slice A4 (Bk.after b.l F).length c4) gl (Bk.after b.l F).length (ocells (Bk.after b.l F))
        rw [hm2.out]
        exact HO4.out.far hglt.out.1 _ _
      · exact (HOn.out.trans HOn4.out fun x hx => .inl (.inr hx)).setCell (.inl (.inl rfl)) _
end Go.Proofs.Ytilbhnloelgpdaa
