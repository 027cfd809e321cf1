/- The walk of CallPlaces: an order keeps its place where it is made less at its price, and goes behind all others else; places rise. -/
import Derived.Test.YtilbhnloelgpdaaBal
import Derived.Test.YtilbhnloelgpdaaBegun
import Derived.Test.YtilbhnloelgpdaaRSame
import Derived.Deep.Cut
import Derived.Deep.CutRange
namespace Go.Proofs.Ytilbhnloelgpdaa
open Go.RowKit
set_option linter.unusedVariables false
set_option linter.unusedSimpArgs false
namespace Bk
theorem amend_err {b : Bk} {id owner p a : Int} (h : (b.amend id owner p a).2 ≠ 0) : (b.amend id owner p a).1 = b := by
  unfold amend at h ⊢
  split
  · rfl
  · rename_i h0
    rw [if_neg h0] at h
    simp only at h ⊢
    split
    · rfl
    · rename_i h1
      rw [if_neg h1] at h
      split
      · rename_i h2
        rw [if_pos h2] at h
        exact absurd rfl h
      · rename_i h2
        rw [if_neg h2] at h
        split
        · rfl
        · rename_i h3
          rw [if_neg h3] at h
          exact absurd rfl h
theorem amend_get {b : Bk} (h : b.Ok) {id p a : Int} (he : (b.amend id (b.get id).1.owner p a).2 = 0) :
    (b.get id).2 = true ∧ (p = (b.get id).1.price ∧ a ≤ (b.get id).1.amount → ((b.amend id (b.get id).1.owner p a).1.get id).1.place = (b.get id).1.place ∧ ((b.amend id (b.get id).1.owner p a).1.get id).1.amount = a) ∧
    (¬ (p = (b.get id).1.price ∧ a ≤ (b.get id).1.amount) → ((b.amend id (b.get id).1.owner p a).1.get id).1.place = b.next ∧ ((b.amend id (b.get id).1.owner p a).1.get id).1.price = p ∧ ((b.amend id (b.get id).1.owner p a).1.get id).1.amount = a ∧ ((b.amend id (b.get id).1.owner p a).1.get id).1.buys = (b.get id).1.buys) := by
  have hok := amend_ok h id (b.get id).1.owner p a
  by_cases hi : ix b.l id < b.l.length
  · have hg : b.get id = (b.l.getD (ix b.l id) ord0, true) := by unfold get; rw [if_pos hi]
    have hm : b.mine id (b.get id).1.owner = ((ix b.l id : Int), 0) := by
      unfold mine
      rw [if_pos hi, hg, if_pos rfl]
    have hid : (b.l.getD (ix b.l id) ord0).id = id := ix_id hi
    rw [hg] at he hok hm ⊢
    simp only at he hok hm ⊢
    refine ⟨trivial, ?_⟩
    unfold amend at he hok ⊢
    rw [hm] at he hok ⊢
    simp only [ne_eq, not_true_eq_false, if_false, ite_false] at he hok ⊢
    by_cases h1 : ({ b.l.getD (ix b.l id) ord0 with price := p, amount := a } : Ord).right = true
    · rw [if_neg (by simpa using h1)] at he hok ⊢
      by_cases h2 : p = (b.l.getD (ix b.l id) ord0).price ∧ a ≤ (b.l.getD (ix b.l id) ord0).amount
      · rw [if_pos h2] at hok ⊢
        refine ⟨fun _ => ?_, fun hh => absurd h2 hh⟩
        have := get_in h (L := b.l.set (ix b.l id) { b.l.getD (ix b.l id) ord0 with price := p, amount := a }) (nx := b.next) hok.ids (o := { b.l.getD (ix b.l id) ord0 with price := p, amount := a }) (List.mem_set hi _)
        rw [show ({ b.l.getD (ix b.l id) ord0 with price := p, amount := a } : Ord).id = id from hid] at this
        rw [this]
        exact ⟨rfl, rfl⟩
      · rw [if_neg h2] at he hok ⊢
        refine ⟨fun hh => absurd hh h2, fun _ => ?_⟩
        by_cases h3 : 9007199254740992 ≤ b.next
        · rw [if_pos h3] at he; exact absurd he (by simp)
        · rw [if_neg h3] at hok ⊢
          have := get_in h (L := b.l.eraseIdx (ix b.l id) ++ [{ b.l.getD (ix b.l id) ord0 with price := p, amount := a, place := b.next }]) (nx := b.next + 1) hok.ids (o := { b.l.getD (ix b.l id) ord0 with price := p, amount := a, place := b.next }) (List.mem_append_right _ (List.mem_singleton.2 rfl))
          rw [show ({ b.l.getD (ix b.l id) ord0 with price := p, amount := a, place := b.next } : Ord).id = id from hid] at this
          rw [this]
          exact ⟨rfl, rfl, rfl, rfl⟩
    · rw [if_pos (by simpa using h1)] at he
      exact absurd he (by simp)
  · exfalso
    have hm : (b.mine id (b.get id).1.owner).2 = 3 := by unfold mine; rw [if_neg hi]
    unfold amend at he
    rw [hm] at he
    simp at he
/-- The place of the order ahead of the i-th; 0: there is none. -/
def lastP (L : List Ord) (i : Nat) : Int := if i = 0 then 0 else (L.getD (i - 1) ord0).place
theorem lastP_rise {b : Bk} (h : b.Ok) {i : Nat} (hi : i < b.l.length) : lastP b.l i < (b.l.getD i ord0).place := by
  unfold lastP
  split
  · exact (h.span _ (getD_mem hi)).1
  · have e : ∀ k (hk : k < b.l.length), b.l.getD k ord0 = b.l[k] := fun k hk => by rw [List.getD_eq_getElem?_getD, List.getElem?_eq_getElem hk]; rfl
    rw [e i hi, e (i - 1) (by omega)]
    exact List.pairwise_iff_getElem.1 h.places (i - 1) i (by omega) hi (by omega)
theorem lastP_next {b : Bk} (h : b.Ok) : lastP b.l b.l.length < b.next := by
  unfold lastP
  split
  · have := h.next0; omega
  · exact (h.span _ (getD_mem (by omega))).2
end Bk
set_option maxHeartbeats 16000000 in
set_option maxRecDepth 100000 in
theorem CallPlaces_walk (W : World) (A : Option Addr) (len c : Nat) (L0 : List SAct) (hlen0 : L0.length = len) (hlc : len ≤ c) (hcm : c ≤ maxLen) (h0 : SRow W A L0) (id : Int) (_hidw : (Lit.int .i64 id).wf = true) (price : Int) (_hpw : (Lit.int .i64 price).wf = true) (amount : Int) (_haw : (Lit.int .i64 amount).wf = true) :
    Calls Try.prog 8 #[.slice A len c, .int .i64 id, .int .i64 price, .int .i64 amount] W fun e w' => e = .returned (.bool true) ∧ Below W.heap.size W w' := by
  obtain ⟨m, hm⟩ : ∃ m, Hid (m = if 80 < len then 80 else len) := ⟨_, Lib.hid rfl⟩
  have HBe : Hid (∃ B : Bk, B.Ok ∧ Calls Try.prog 22 #[.slice A m c] W (Begins W B)) := Lib.hid (by
    have hlm : (L0.take 80).length = m := by rw [List.length_take, hm.out]; split <;> omega
    have := begun_calls W A (L0.take 80) c (h0.take 80) (by rw [hlm]; have := hm.out; unfold maxLen at hcm; split at this <;> omega)
    rw [hlm] at this
    exact ⟨_, Bk.run_ok _, this⟩)
  obtain ⟨B, hok, hbe⟩ := HBe.out
  have HBg := Lib.hid hbe
  have hcN : Hid (80 < len → 80 ≤ c) := Lib.hid (by omega)
  have HAw := Lib.hid (fun wx => awake_calls wx)
  have hfew := hok.few
  clear h0 hlen0 hlc hcm HBe hbe _hidw _hpw _haw
  have herr := Lib.hid (fun (e : (B.amend id (B.get id).1.owner price amount).2 ≠ 0) => Bk.amend_err e)
  have hget := Lib.hid (fun (e : (B.amend id (B.get id).1.owner price amount).2 = 0) => Bk.amend_get hok e)
  have hrise := Lib.hid (fun (i : Nat) (hi : i < B.l.length) => Bk.lastP_rise hok hi)
  have hlast := Lib.hid (Bk.lastP_next hok)
  have HG1 := Lib.hid (fun w g gl (h : AtB w g gl B) => get_calls w g gl B h id)
  have HOr := Lib.hid (fun w g gl (h : AtB w g gl B) => orders_calls w g gl B h)
  have HAm := Lib.hid (fun w g gl (h : AtB w g gl B) => amend_calls w g gl B h id (B.get id).1.owner price amount)
  unfold Listed at HOr
  have HG2 := Lib.hid (fun w g gl (h : AtB w g gl (B.amend id (B.get id).1.owner price amount).1) => get_calls w g gl _ h id)
  obtain ⟨v, hv⟩ : ∃ v, Hid (B.get id = v) := ⟨_, Lib.hid rfl⟩
  rw [hv.out] at herr hget HG1 HAm HG2
  obtain ⟨⟨vi, vo, vp, va, vpl, vb⟩, ok⟩ := v
  simp only at herr hget HG1 HAm HG2
  obtain ⟨am, ham⟩ : ∃ am, Hid (B.amend id vo price amount = am) := ⟨_, Lib.hid rfl⟩
  rw [ham.out] at herr hget HAm HG2
  obtain ⟨B', E⟩ := am
  simp only at herr hget HAm HG2
  have HG3 : Hid (E ≠ 0 → ∀ w g gl, AtB w g gl B' → Calls Try.prog 26 #[.pointer (some ⟨g, 0, none⟩), .int .i64 id] w fun e w' => e = .returned (.tuple #[.agg #[.int .i64 vi, .int .i64 vo, .int .i64 vp, .int .i64 va, .int .i64 vpl, .bool vb], .bool ok]) ∧ Below w.heap.size w w') := Lib.hid fun e w g gl h => by
    rw [herr.out e] at h
    have := HG1.out w g gl h
    unfold oval at this
    exact this
  obtain ⟨u, hu⟩ : ∃ u, Hid (B'.get id = u) := ⟨_, Lib.hid rfl⟩
  rw [hu.out] at hget HG2
  obtain ⟨⟨ui, uo, up, ua, upl, ub⟩, ok2⟩ := u
  simp only at hget HG2
  unfold oval at HG1 HG2
  simp only at HG1 HG2
  obtain ⟨n, hn⟩ : ∃ n, Hid (B.l.length = n) := ⟨_, Lib.hid rfl⟩
  rw [hn.out] at hrise hlast HOr hfew
  have hkp : Hid (E = 0 → ok = true ∧ (price = vp ∧ amount ≤ va → upl = vpl ∧ ua = amount) ∧ (¬ (price = vp ∧ amount ≤ va) → Bk.lastP B.l n < upl ∧ up = price ∧ ua = amount ∧ ub = vb)) := Lib.hid fun e => by
    obtain ⟨q1, q2, q3⟩ := hget.out e
    refine ⟨q1, q2, fun hh => ?_⟩
    obtain ⟨k1, k2, k3, k4⟩ := q3 hh
    exact ⟨by have := hlast.out; omega, k2, k3, k4⟩
  have hlz : Hid (Bk.lastP B.l 0 = 0) := Lib.hid rfl
  have hls : Hid (∀ i, Bk.lastP B.l (i + 1) = (B.l.getD i ord0).place) := Lib.hid fun i => rfl
  clear hget herr hlast hok hv ham hu
  go_enter Try.func8, Try.ntmps8
  go_upto_if 22 with (fail)
  go_cut [0] from 23 to 24 (fun s0 wc => s0 = .slice A m c ∧ W = wc)
  case first =>
    by_cases hlong : 80 < len
    · have hlI : (80 : Int) < (len : Int) := by omega
      have hcI : (80 : Int) ≤ (c : Int) := by have := hcN.out hlong; omega
      have hcN2 : 80 ≤ c := hcN.out hlong
      have hme := hm.out
      rw [if_pos hlong] at hme
      have HME := Lib.hid hme
      clear hme
      go_wp2_with fail
      go_meet
      exact ⟨by rw [HME.out], rfl⟩
    · have hlI : ¬ (80 : Int) < (len : Int) := by omega
      have hme := hm.out
      rw [if_neg hlong] at hme
      have HME := Lib.hid hme
      clear hme
      go_wp2_with fail
      go_meet
      exact ⟨by rw [HME.out], rfl⟩
  case rest =>
    obtain ⟨rfl, rfl⟩ := hcut
    clear hcN hm
    go_upto_region 4 with (go_at_call 22; (with_reducible refine HBg.out.mono ?_); rintro e w1 ⟨g, rfl, gl, hat, hg0, hgl0, hb1⟩; have HT1 := Lib.hid hat; have hgg : Hid (W.heap.size ≤ g ∧ (∀ k, gl = some k → W.heap.size ≤ k)) := Lib.hid ⟨hg0, hgl0⟩; have HB1 := Lib.hid hb1; clear hat hg0 hgl0 hb1)
    have hlt : Hid (g < w1.heap.size ∧ (∀ k, gl = some k → k < w1.heap.size)) := Lib.hid ⟨HT1.out.lt, fun k e => by
      obtain ⟨_, _, _, ho⟩ := HT1.out.box
      exact ho.lt e⟩
    have HGa := Lib.hid (HG1.out _ _ _ HT1.out)
    go_upto_region 5 with (go_at_call 26; (with_reducible refine HGa.out.mono ?_); rintro e wa ⟨rfl, hh⟩; have HT2 := Lib.hid (HT1.out.below hh); have HB2 := Lib.hid (below_next HB1.out hh); have hsz := Lib.hid hh.size; clear hh)
    have hbx : Hid (Below wa.heap.size wa (wa.alloc (.cells #[.int .i64 vi, .int .i64 vo, .int .i64 vp, .int .i64 va, .int .i64 vpl, .bool vb] 33))) := Lib.hid ((Below.refl _ _).alloc (Nat.le_refl _) _)
    have BN := Lib.hid (Blk.new wa 33 #[.int .i64 vi, .int .i64 vo, .int .i64 vp, .int .i64 va, .int .i64 vpl, .bool vb])
    obtain ⟨gn, hgn⟩ : ∃ gn, Hid (wa.heap.size = gn) := ⟨_, Lib.hid rfl⟩
    rw [hgn.out] at BN ⊢
    generalize World.alloc wa _ = w3 at hbx BN ⊢
    have HT3 := Lib.hid (HT2.out.below hbx.out)
    have HB3 := Lib.hid (below_next HB2.out hbx.out)
    have hgn2 : Hid (gn ≠ g ∧ gl ≠ some gn) := Lib.hid ⟨by have := hlt.out.1; have := hgn.out; have := hsz.out; omega, fun e => by have := hlt.out.2 _ e; have := hgn.out; have := hsz.out; omega⟩
    have HOa := Lib.hid (HOr.out _ _ _ HT3.out)
    clear HGa HT1 HT2 HB1 HB2 hbx HBg hlt hgn hsz
    go_upto_region 8 with (go_at_call 23; (with_reducible refine HOa.out.mono ?_); rintro e w4 ⟨A4, c4, rfl, hmn, hh⟩; have HR4 := Lib.hid (hmn.orow hn.out).2; have HT4 := Lib.hid (HT3.out.below hh); have HB4 := Lib.hid (below_next HB3.out hh); have BN4 := Lib.hid (BN.out.below hh BN.out.lt); clear hmn hh)
    clear HOa HT3 HB3 BN
    go_loopg [13, 14] (n + 1) (fun gk s13 s14 wr => wr = w4 ∧ ∃ i : Nat, gk = n + 1 - i ∧ i ≤ n ∧ s14 = .int .i64 (i : Int) ∧ s13 = .int .i64 (Bk.lastP B.l i))
    case atStart => exact ⟨rfl, 0, rfl, Nat.zero_le _, rfl, by rw [hlz.out]⟩
    case round =>
      obtain ⟨rfl, i, rfl, hi, rfl, rfl⟩ := hrel
      have i0 : (0 : Int) ≤ (i : Int) := by omega
      by_cases hil : i < n
      · have hiI : (i : Int) < (n : Int) := by omega
        have hiL : Hid (i < B.l.length) := Lib.hid (by rw [hn.out]; exact hil)
        have HM := Lib.hid (show n + 1 - (i + 1) < n + 1 - i by omega)
        obtain ⟨b, o, rfl⟩ : ∃ b o, A4 = some ⟨b, o, none⟩ := by
          obtain ⟨b, o, e, _⟩ := HR4.out.cells hiL.out
          exact ⟨b, o, e⟩
        have c4x := (ORow.six HR4.out hiL.out (Below.refl _ _)).2.2.2.2.1
        have hr0 := hrise.out i hil
        have hlx := Lib.hid (hls.out i)
        generalize (B.l.getD i ord0).place = pl at c4x hr0 hlx
        generalize Bk.lastP B.l i = la at hr0 ⊢
        have hr1 : ¬ pl ≤ la := by omega
        clear hr0
        go_wp2
        go_roundg (n + 1 - (i + 1))
        case measure => exact HM.out
        case rel => exact ⟨rfl, i + 1, rfl, by omega, by first | rfl | go_num, by rw [hlx.out]⟩
      · obtain rfl : n = i := by omega
        have HAa := Lib.hid (HAm.out _ _ _ HT4.out)
        obtain ⟨d1, d2, d3, d4⟩ : wr.cell? ⟨gn, 1, none⟩ = some (.int .i64 vo) ∧ wr.cell? ⟨gn, 2, none⟩ = some (.int .i64 vp) ∧ wr.cell? ⟨gn, 3, none⟩ = some (.int .i64 va) ∧ wr.cell? ⟨gn, 4, none⟩ = some (.int .i64 vpl) := ⟨BN4.out.cell 1, BN4.out.cell 2, BN4.out.cell 3, BN4.out.cell 4⟩
        generalize Bk.lastP B.l n = la at hkp ⊢
        by_cases hE : E = 0
        · subst hE
          have hE1 : ((0 : Int) != 0) = false := rfl
          obtain ⟨hokt, hkeep, hbeh⟩ := hkp.out rfl
          have HK1 := Lib.hid hkeep
          have HK2 := Lib.hid hbeh
          subst hokt
          clear hkeep hbeh hkp
          go_upto_region 14 with (go_at_call 27; (with_reducible refine HAa.out.mono ?_); rintro e w5 ⟨rfl, hh⟩; have HU5 := Lib.hid hh; clear hh)
          obtain ⟨gl5, ht5, hon5, -⟩ := HU5.out
          have HT5 := Lib.hid ht5
          have HON := Lib.hid hon5
          clear ht5 hon5 HU5 d1 d2 d3 d4
          have HB5 : Hid (Below W.heap.size W w5) := Lib.hid (HB4.out.trans (HON.out.below HB4.out.size fun x hx => by
            rcases hx with rfl | hx
            · exact hgg.out.1
            · exact hgg.out.2 x hx.symm))
          have BN5 : Hid (Blk w5 gn 33 #[.int .i64 vi, .int .i64 vo, .int .i64 vp, .int .i64 va, .int .i64 vpl, .bool vb]) := Lib.hid (by
            have e := HON.out.block gn BN4.out.lt (by
              rintro (hx | hx)
              · exact hgn2.out.1 hx
              · exact hgn2.out.2 hx.symm)
            have hh := BN4.out
            unfold Blk at hh ⊢
            rw [e]; exact hh)
          have HGb := Lib.hid (HG2.out _ _ _ HT5.out)
          go_upto_region 18 with (go_at_call 26; (with_reducible refine HGb.out.mono ?_); rintro e wa ⟨rfl, hh⟩; have HB6 := Lib.hid (below_next HB5.out hh); have BN6 := Lib.hid (BN5.out.below hh BN5.out.lt); clear hh)
          have hby : Hid (Below wa.heap.size wa (wa.alloc (.cells #[.int .i64 ui, .int .i64 uo, .int .i64 up, .int .i64 ua, .int .i64 upl, .bool ub] 33))) := Lib.hid ((Below.refl _ _).alloc (Nat.le_refl _) _)
          have BM := Lib.hid (Blk.new wa 33 #[.int .i64 ui, .int .i64 uo, .int .i64 up, .int .i64 ua, .int .i64 upl, .bool ub])
          obtain ⟨gm, hgm⟩ : ∃ gm, Hid (wa.heap.size = gm) := ⟨_, Lib.hid rfl⟩
          rw [hgm.out] at BM ⊢
          generalize World.alloc wa _ = w7 at hby BM ⊢
          have BN7 := Lib.hid (BN6.out.below hby.out BN6.out.lt)
          have HB7 := Lib.hid (below_next HB6.out hby.out)
          obtain ⟨d1, d2, d3, d4, d5⟩ : w7.cell? ⟨gn, 1, none⟩ = some (.int .i64 vo) ∧ w7.cell? ⟨gn, 2, none⟩ = some (.int .i64 vp) ∧ w7.cell? ⟨gn, 3, none⟩ = some (.int .i64 va) ∧ w7.cell? ⟨gn, 4, none⟩ = some (.int .i64 vpl) ∧ w7.cell? ⟨gn, 5, none⟩ = some (.bool vb) := ⟨BN7.out.cell 1, BN7.out.cell 2, BN7.out.cell 3, BN7.out.cell 4, BN7.out.cell 5⟩
          obtain ⟨k2, k3, k4, k5⟩ : w7.cell? ⟨gm, 2, none⟩ = some (.int .i64 up) ∧ w7.cell? ⟨gm, 3, none⟩ = some (.int .i64 ua) ∧ w7.cell? ⟨gm, 4, none⟩ = some (.int .i64 upl) ∧ w7.cell? ⟨gm, 5, none⟩ = some (.bool ub) := ⟨BM.out.cell 2, BM.out.cell 3, BM.out.cell 4, BM.out.cell 5⟩
          by_cases h1 : price = vp
          · subst h1
            have h1b : (price == price) = true := by simp
            by_cases h2 : amount ≤ va
            · obtain ⟨q1, q2⟩ := HK1.out ⟨rfl, h2⟩
              subst q1
              subst q2
              have z1 : (upl == upl) = true := by simp
              have z2 : (ua == ua) = true := by simp
              clear HK1 HK2
              go_wp2_with (go_at_call 20; (with_reducible refine (HAw.out _).mono ?_); rintro e w9 ⟨rfl, hh⟩; have HBz := Lib.hid (below_next HB7.out hh); clear hh)
              refine bodyPost_ret (by simp [results, Try.results8, asAddr, go_sem]; rfl) rfl ?_
              exact ⟨rfl, HBz.out⟩
            · obtain ⟨q0, q1, q2, q3⟩ := HK2.out fun hh => h2 hh.2
              subst q1
              subst q2
              subst q3
              have z1 : (up == up) = true := by simp
              have z2 : (ua == ua) = true := by simp
              have z3 : (ub == ub) = true := by simp
              clear HK1 HK2
              go_wp2_with (go_at_call 20; (with_reducible refine (HAw.out _).mono ?_); rintro e w9 ⟨rfl, hh⟩; have HBz := Lib.hid (below_next HB7.out hh); clear hh)
              refine bodyPost_ret (by simp [results, Try.results8, asAddr, go_sem]; rfl) rfl ?_
              exact ⟨rfl, HBz.out⟩
          · have h1b : (price == vp) = false := by simpa using h1
            obtain ⟨q0, q1, q2, q3⟩ := HK2.out fun hh => h1 hh.1
            subst q1
            subst q2
            subst q3
            have z1 : (up == up) = true := by simp
            have z2 : (ua == ua) = true := by simp
            have z3 : (ub == ub) = true := by simp
            clear HK1 HK2 h1
            go_wp2_with (go_at_call 20; (with_reducible refine (HAw.out _).mono ?_); rintro e w9 ⟨rfl, hh⟩; have HBz := Lib.hid (below_next HB7.out hh); clear hh)
            refine bodyPost_ret (by simp [results, Try.results8, asAddr, go_sem]; rfl) rfl ?_
            exact ⟨rfl, HBz.out⟩
        · have hE1 : (E != 0) = true := by simpa using hE
          have hq : ∀ wx, (binOp .eql 33 (.agg #[.int .i64 vi, .int .i64 vo, .int .i64 vp, .int .i64 va, .int .i64 vpl, .bool vb]) (.agg #[.int .i64 vi, .int .i64 vo, .int .i64 vp, .int .i64 va, .int .i64 vpl, .bool vb])).run Try.prog wx = .ok (.bool true) wx := fun wx => by
            simp [binOp, Op.equal, Op.maxDepth, go_sem, eq_order]
          have hok2 : (ok == ok) = true := by simp
          have hEH := Lib.hid hE
          clear hE hkp
          go_upto_region 14 with (go_at_call 27; (with_reducible refine HAa.out.mono ?_); rintro e w5 ⟨rfl, hh⟩; have HU5 := Lib.hid hh; clear hh)
          obtain ⟨gl5, ht5, hon5, -⟩ := HU5.out
          have HT5 := Lib.hid ht5
          have HON := Lib.hid hon5
          clear ht5 hon5 HU5 d1 d2 d3 d4
          have HB5 : Hid (Below W.heap.size W w5) := Lib.hid (HB4.out.trans (HON.out.below HB4.out.size fun x hx => by
            rcases hx with rfl | hx
            · exact hgg.out.1
            · exact hgg.out.2 x hx.symm))
          have BN5 : Hid (Blk w5 gn 33 #[.int .i64 vi, .int .i64 vo, .int .i64 vp, .int .i64 va, .int .i64 vpl, .bool vb]) := Lib.hid (by
            have e := HON.out.block gn BN4.out.lt (by
              rintro (hx | hx)
              · exact hgn2.out.1 hx
              · exact hgn2.out.2 hx.symm)
            have hh := BN4.out
            unfold Blk at hh ⊢
            rw [e]; exact hh)
          have HGb := Lib.hid (HG3.out hEH.out _ _ _ HT5.out)
          go_upto_region 16 with (go_at_call 26; (with_reducible refine HGb.out.mono ?_); rintro e wa ⟨rfl, hh⟩; have HB6 := Lib.hid (below_next HB5.out hh); have BN6 := Lib.hid (BN5.out.below hh BN5.out.lt); clear hh)
          have hby : Hid (Below wa.heap.size wa (wa.alloc (.cells #[.int .i64 vi, .int .i64 vo, .int .i64 vp, .int .i64 va, .int .i64 vpl, .bool vb] 33))) := Lib.hid ((Below.refl _ _).alloc (Nat.le_refl _) _)
          have BM := Lib.hid (Blk.new wa 33 #[.int .i64 vi, .int .i64 vo, .int .i64 vp, .int .i64 va, .int .i64 vpl, .bool vb])
          obtain ⟨gm, hgm⟩ : ∃ gm, Hid (wa.heap.size = gm) := ⟨_, Lib.hid rfl⟩
          rw [hgm.out] at BM ⊢
          generalize World.alloc wa _ = w7 at hby BM ⊢
          have BN7 := Lib.hid (BN6.out.below hby.out BN6.out.lt)
          have HB7 := Lib.hid (below_next HB6.out hby.out)
          obtain ⟨d0, d1, d2, d3, d4, d5⟩ : w7.cell? ⟨gn, 0, none⟩ = some (.int .i64 vi) ∧ w7.cell? ⟨gn, 1, none⟩ = some (.int .i64 vo) ∧ w7.cell? ⟨gn, 2, none⟩ = some (.int .i64 vp) ∧ w7.cell? ⟨gn, 3, none⟩ = some (.int .i64 va) ∧ w7.cell? ⟨gn, 4, none⟩ = some (.int .i64 vpl) ∧ w7.cell? ⟨gn, 5, none⟩ = some (.bool vb) := ⟨BN7.out.cell 0, BN7.out.cell 1, BN7.out.cell 2, BN7.out.cell 3, BN7.out.cell 4, BN7.out.cell 5⟩
          obtain ⟨k0, k1, k2, k3, k4, k5⟩ : w7.cell? ⟨gm, 0, none⟩ = some (.int .i64 vi) ∧ w7.cell? ⟨gm, 1, none⟩ = some (.int .i64 vo) ∧ w7.cell? ⟨gm, 2, none⟩ = some (.int .i64 vp) ∧ w7.cell? ⟨gm, 3, none⟩ = some (.int .i64 va) ∧ w7.cell? ⟨gm, 4, none⟩ = some (.int .i64 vpl) ∧ w7.cell? ⟨gm, 5, none⟩ = some (.bool vb) := ⟨BM.out.cell 0, BM.out.cell 1, BM.out.cell 2, BM.out.cell 3, BM.out.cell 4, BM.out.cell 5⟩
          go_wp2_with (go_at_call 20; (with_reducible refine (HAw.out _).mono ?_); rintro e w9 ⟨rfl, hh⟩; have HBz := Lib.hid (below_next HB7.out hh); clear hh)
          refine bodyPost_ret (by simp [results, Try.results8, asAddr, go_sem]; rfl) rfl ?_
          exact ⟨rfl, HBz.out⟩
end Go.Proofs.Ytilbhnloelgpdaa
