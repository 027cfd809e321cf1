/- The reference's Fills. -/
import Derived.Test.YtilbhnloelgpdaaGBal
import Derived.Test.YtilbhnloelgpdaaGAm
import Derived.Deep.Cut
import Derived.Deep.CutRange
import Derived.Deep.CutBlock
namespace Go.Proofs.Ytilbhnloelgpdaa
open Go.RowKit
set_option linter.unusedVariables false
set_option linter.unusedSimpArgs false
theorem Mine.drop {w0 w : World} {A : Option Addr} {n c : Nat} {L : List Ord} (h : Mine w0 w 6 (.slice A n c) n (ocells L)) (hL : L.length = n) {k : Nat} (hk : k ≤ n) : Mine w0 w 6 (.slice (if c = k then A else A.map (·.add (k * 6))) (n - k) (c - k)) (n - k) (ocells (L.drop k)) ∧ Mine w0 w 6 (.slice A k c) k (ocells (L.take k)) := by
  have hc : ocells L = ocells (L.take k) ++ ocells (L.drop k) := by rw [← ocells_append, List.take_append_drop]
  have h1 : (ocells (L.take k)).length = k * 6 := by rw [ocells_length, List.length_take, hL, Nat.min_eq_left hk]
  have h2 : (ocells (L.drop k)).length = (n - k) * 6 := by rw [ocells_length, List.length_drop, hL]
  constructor
  · have := h.cut hk (Nat.le_refl n)
    rw [hc, List.drop_append, h1, List.drop_of_length_le (by omega), List.nil_append, Nat.sub_self, List.drop_zero, List.take_of_length_le (by omega)] at this
    exact this
  · have := h.cut (Nat.zero_le k) hk
    rw [hc, Nat.zero_mul, List.drop_zero, Nat.sub_zero, Nat.sub_zero, List.take_append, h1, Nat.sub_self, List.take_zero, List.append_nil, List.take_of_length_le (by omega)] at this
    have e : (if c = 0 then A else A.map (·.add 0)) = A := by
      split
      · rfl
      · cases A with
        | none => rfl
        | some a => simp [Addr.add_lit, Addr.add]
    rwa [e] at this
theorem Mine.drop_some {w0 w : World} {b o n c : Nat} {L : List Ord} (h : Mine w0 w 6 (.slice (some ⟨b, o, none⟩) n c) n (ocells L)) (hL : L.length = n) {k : Nat} (hk : k ≤ n) : Mine w0 w 6 (.slice (if c = k then some ⟨b, o, none⟩ else some ⟨b, o + k * 6, none⟩) (n - k) (c - k)) (n - k) (ocells (L.drop k)) := by
  have := (h.drop hL hk).1
  simpa [Addr.add_lit] using this
theorem Mine.drop_none {w0 w : World} {A : Option Addr} {n c : Nat} {L : List Ord} (h : Mine w0 w 6 (.slice A n c) n (ocells L)) (hL : L.length = n) {k : Nat} (hk : k ≤ n) (hc : c = k) : Mine w0 w 6 (.slice A (n - k) (c - k)) (n - k) (ocells (L.drop k)) := by
  have := (h.drop hL hk).1
  rwa [if_pos hc] at this
theorem Mine.lies0 {w0 w : World} {A : Option Addr} {n c : Nat} {xs : List Value} (h : Mine w0 w 6 (.slice A n c) n xs) (hc : c ≠ 0) : ∃ b o, A = some ⟨b, o, none⟩ := by
  obtain ⟨b, ⟨_, A', c', hv, _, _, h3⟩, _⟩ := h
  cases hv
  rcases h3 with ⟨_, h4⟩ | ⟨g, off, _, hA, _⟩
  · exact absurd h4 hc
  · exact ⟨g, off, hA⟩
theorem Mine.src {w0 w : World} {v : Value} {n : Nat} {L : List Ord} (h : Mine w0 w 6 v n (ocells L)) : Src Try.prog 6 22 v n (ocells L) w := by
  obtain ⟨b, h1, _⟩ := h
  exact h1.src (ocells_one L) Try.underlying22
set_option maxHeartbeats 16000000 in
set_option maxRecDepth 100000 in
theorem rfills_calls (w : World) (A : Option Addr) (L : List Ord) (c : Nat) (p amt : Int) (h : ORow w A L) (hr : -9223372036854775808 ≤ amt ∧ amt ≤ 9223372036854775807) :
    Calls Try.prog 18 #[.slice A L.length c, .int .i64 p, .int .i64 amt] w (FLeft w (Ca.fills L p amt)) := by
  have H := Lib.hid h
  obtain ⟨n0, hn0⟩ : ∃ n0, Hid (L.length = n0) := ⟨_, Lib.hid rfl⟩
  rw [hn0.out]
  by_cases hl : 64 < n0
  · have E : Hid (Ca.fills L p amt = []) := Lib.hid (by
      unfold Ca.fills Ca.rights
      rw [if_pos (by rw [hn0.out]; exact hl)]; rfl)
    rw [E.out]
    have hlI : (64 : Int) < (n0 : Int) := by omega
    clear h
    go_enter Try.func18, Try.ntmps18
    go_wp2
    refine bodyPost_ret (by simp [results, Try.results18, asAddr, go_sem]; rfl) rfl ?_
    exact ⟨none, 0, rfl, Mine.empty _ _ _ _, Below.refl _ _⟩
  have hlI : ¬ (64 : Int) < (n0 : Int) := by omega
  have HE := Lib.hid (Ca.fillsTo_two L p amt)
  have HA := Lib.hid (fun sd => Ca.sideR_all sd p L (by rw [hn0.out]; omega))
  have HR := Lib.hid (fun wx o => rright_calls wx o)
  obtain ⟨T, hT⟩ : ∃ T, Hid (Ca.fills L p amt = T) := ⟨_, Lib.hid rfl⟩
  rw [hT.out] at HE ⊢
  generalize hRe : Ca.rights L = R at HE HA
  have Hr := Lib.hid hr
  obtain ⟨i1, hi1, hy0, hy1, hy2⟩ := info_parts info_order
  have HI1 := Lib.hid hi1
  have HY0 := Lib.hid hy0
  have HY1 := Lib.hid hy1
  have HY2 := Lib.hid hy2
  obtain ⟨j1, hj1, hz0, hz1, hz2⟩ := info_parts info_fill
  have HJ1 := Lib.hid hj1
  have HZ0 := Lib.hid hz0
  have HZ1 := Lib.hid hz1
  have HZ2 := Lib.hid hz2
  rw [hn0.out] at HA
  clear h hi1 hy0 hy1 hy2 hj1 hz0 hz1 hz2 hr hRe
  go_enter Try.func18, Try.ntmps18
  go_upto_region 5 with (fail)
  go_loopg [7, 8] 3 (fun gk s7 s8 wr => ∃ (t : Nat) (A : Option Addr) (n c : Nat), gk = 3 - t ∧ t ≤ 2 ∧ s8 = .int .i64 (t : Int) ∧ s7 = .slice A n c ∧ Hid ((Ca.fillsTo R p amt t).length = n ∧ n ≤ 64 * t) ∧ Hid (Mine w wr 3 (.slice A n c) n (fcells (Ca.fillsTo R p amt t))) ∧ Hid (Below w.heap.size w wr))
  case atStart => exact ⟨0, none, 0, 0, rfl, Nat.zero_le _, rfl, rfl, Lib.hid ⟨rfl, Nat.zero_le _⟩, Lib.hid (Mine.empty _ _ _ _), Lib.hid (Below.refl _ _)⟩
  case round =>
    obtain ⟨t, Ao, n, co, rfl, ht, rfl, rfl, hn, HM1, hb⟩ := hrel
    by_cases htl : t < 2
    · obtain ⟨wo, hwo⟩ : ∃ wo, wo = wr := ⟨_, rfl⟩
      subst hwo
      have htI : (t : Int) < 2 := by omega
      have t0 : (0 : Int) ≤ (t : Int) := by omega
      obtain ⟨sd, hsd⟩ : ∃ sd, Hid ((t == 0) = sd) := ⟨_, Lib.hid rfl⟩
      have HT1 : Hid (Ca.fillsTo R p amt (t + 1) = Ca.fillsTo R p amt t ++ Ca.fillGo amt (isort sd (Ca.sideOf sd p R))) := Lib.hid (by rw [← hsd.out]; rfl)
      have HAs := Lib.hid (HA.out sd)
      have HMt := Lib.hid (show 3 - (t + 1) < 3 - t by omega)
      generalize Ca.fillsTo R p amt t = outs at hn HM1 HT1
      go_upto_region 9 with (fail)
      go_loopg [9, 10] (n0 + 1) (fun gk s9 s10 wi => ∃ (i : Nat) (S : List Ord) (A2 : Option Addr) (n2 c2 : Nat), gk = n0 + 1 - i ∧ i ≤ n0 ∧ s10 = .int .i64 (i : Int) ∧ s9 = .slice A2 n2 c2 ∧ Hid (Stab (fst sd) (Ca.sideR sd p L i) S) ∧ Hid (S.length = n2 ∧ n2 ≤ i ∧ i ≤ 64) ∧ Hid (Mine wo wi 6 (.slice A2 n2 c2) n2 (ocells S)) ∧ Hid (Below wo.heap.size wo wi))
      case atStart => exact ⟨0, [], none, 0, 0, rfl, Nat.zero_le _, rfl, rfl, Lib.hid (by rw [Ca.sideR_zero]; exact Stab.refl List.Pairwise.nil), Lib.hid ⟨rfl, Nat.zero_le _, by omega⟩, Lib.hid (Mine.empty _ _ _ _), Lib.hid (Below.refl _ _)⟩
      case round =>
        obtain ⟨i, S, A2, n2, c2, rfl, hi, rfl, rfl, HSt, hn2, HM2, hbi⟩ := hrel
        have i0 : (0 : Int) ≤ (i : Int) := by omega
        by_cases hil : i < n0
        · have hiI : (i : Int) < (n0 : Int) := by omega
          have hiL : Hid (i < L.length) := Lib.hid (by rw [hn0.out]; exact hil)
          obtain ⟨b, o, rfl⟩ : ∃ b o, A = some ⟨b, o, none⟩ := by
            obtain ⟨b, o, e, _⟩ := H.out.cells hiL.out
            exact ⟨b, o, e⟩
          have HCi := Lib.hid (ORow.six H.out hiL.out (hb.out.trans (hbi.out.mono hb.out.size)))
          have hNx := Lib.hid (Ca.sideR_next sd p L hiL.out)
          have HRr := Lib.hid (fun wx => HR.out wx (L.getD i ord0))
          have HM := Lib.hid (show n0 + 1 - (i + 1) < n0 + 1 - i by omega)
          have HlS := Lib.hid hn2.out.1
          have hi64 : i + 1 ≤ 64 := by omega
          generalize L.getD i ord0 = q at HCi hNx HRr
          obtain ⟨qi, qo, qp, qa, qpl, qb⟩ := q
          unfold oval at HRr
          simp only at HRr
          obtain ⟨c0, c1, c2', c3, c4, c5⟩ := HCi.out
          simp only at c0 c1 c2' c3 c4 c5
          generalize Ord.right ⟨qi, qo, qp, qa, qpl, qb⟩ = r at hNx HRr
          go_upto_region 12 with (fail)
          have hbx : Hid (Below wr.heap.size wr (wr.alloc (.cells #[.int .i64 qi, .int .i64 qo, .int .i64 qp, .int .i64 qa, .int .i64 qpl, .bool qb] 33))) := Lib.hid ((Below.refl _ _).alloc (Nat.le_refl _) _)
          have BA := Lib.hid (Blk.new wr 33 #[.int .i64 qi, .int .i64 qo, .int .i64 qp, .int .i64 qa, .int .i64 qpl, .bool qb])
          obtain ⟨g1, hg1⟩ : ∃ g1, Hid (wr.heap.size = g1) := ⟨_, Lib.hid rfl⟩
          rw [hg1.out] at BA ⊢
          clear c0 c1 c2' c3 c4 c5 HCi
          obtain ⟨wi, hwi⟩ : ∃ wi, wi = wr := ⟨_, rfl⟩
          subst hwi
          generalize World.alloc wi _ = wx at hbx BA ⊢
          obtain ⟨c0, c1, c2', c3, c4, c5⟩ : (wx.cell? ⟨g1, 0, none⟩ = some (.int .i64 qi) ∧ wx.cell? ⟨g1, 1, none⟩ = some (.int .i64 qo) ∧ wx.cell? ⟨g1, 2, none⟩ = some (.int .i64 qp) ∧ wx.cell? ⟨g1, 3, none⟩ = some (.int .i64 qa) ∧ wx.cell? ⟨g1, 4, none⟩ = some (.int .i64 qpl) ∧ wx.cell? ⟨g1, 5, none⟩ = some (.bool qb)) := ⟨BA.out.cell 0, BA.out.cell 1, BA.out.cell 2, BA.out.cell 3, BA.out.cell 4, BA.out.cell 5⟩
          obtain ⟨gd, hgd⟩ : ∃ gd, Hid (Ca.good sd p ⟨qi, qo, qp, qa, qpl, qb⟩ = gd) := ⟨_, Lib.hid rfl⟩
          go_cut [12] from 36 to 62 (fun s12 wc => s12 = .bool gd ∧ wx = wc)
          case first =>
            cases sd with
            | true =>
              have e0 : ((t : Int) == 0) = true := by have := hsd.out; simp at this; subst this; rfl
              have e1 : ((t : Int) == 1) = false := by have := hsd.out; simp at this; subst this; rfl
              cases qb with
              | true =>
                by_cases hp : p ≤ qp
                · have hgd : Hid (gd = true) := Lib.hid (by rw [← hgd.out]; simp [Ca.good, hp])
                  go_wp2_with fail
                  go_meet
                  exact ⟨by rw [hgd.out], rfl⟩
                · have hgd : Hid (gd = false) := Lib.hid (by rw [← hgd.out]; simp [Ca.good, hp])
                  go_wp2_with fail
                  go_meet
                  exact ⟨by rw [hgd.out], rfl⟩
              | false =>
                have hgd : Hid (gd = false) := Lib.hid (by rw [← hgd.out]; simp [Ca.good])
                go_wp2_with fail
                go_meet
                exact ⟨by rw [hgd.out], rfl⟩
            | false =>
              have e0 : ((t : Int) == 0) = false := by have := hsd.out; simp at this ⊢; omega
              have e1 : ((t : Int) == 1) = true := by have := hsd.out; simp at this ⊢; omega
              cases qb with
              | true =>
                have hgd : Hid (gd = false) := Lib.hid (by rw [← hgd.out]; simp [Ca.good])
                go_wp2_with fail
                go_meet
                exact ⟨by rw [hgd.out], rfl⟩
              | false =>
                by_cases hp : qp ≤ p
                · have hgd : Hid (gd = true) := Lib.hid (by rw [← hgd.out]; simp [Ca.good, hp])
                  go_wp2_with fail
                  go_meet
                  exact ⟨by rw [hgd.out], rfl⟩
                · have hgd : Hid (gd = false) := Lib.hid (by rw [← hgd.out]; simp [Ca.good, hp])
                  go_wp2_with fail
                  go_meet
                  exact ⟨by rw [hgd.out], rfl⟩
          case rest =>
            obtain ⟨rfl, rfl⟩ := hcut
            cases gd with
            | false =>
              cases r with
              | false =>
                have HN : Hid (Ca.sideR sd p L (i + 1) = Ca.sideR sd p L i) := Lib.hid (by
                  have hN := hNx.out
                  rwa [if_neg (by rw [hgd.out]; simp), List.append_nil] at hN)
                clear hNx hgd
                go_wp2_with (go_at_call 37; (with_reducible refine (HRr.out _).mono ?_); rintro e w5 ⟨rfl, hh⟩; have hb5 := Lib.hid (below_next hbx.out hh); clear hh)
                go_roundg (n0 + 1 - (i + 1))
                case measure => exact HM.out
                case rel => exact ⟨i + 1, S, A2, n2, c2, rfl, by omega, by first | rfl | go_num, rfl, Lib.hid (by rw [HN.out]; exact HSt.out), Lib.hid (by have := hn2.out; omega), Lib.hid (HM2.out.below hb5.out), Lib.hid (below_next hbi.out hb5.out)⟩
              | true =>
                have HN : Hid (Ca.sideR sd p L (i + 1) = Ca.sideR sd p L i) := Lib.hid (by
                  have hN := hNx.out
                  rwa [if_neg (by rw [hgd.out]; simp), List.append_nil] at hN)
                clear hNx hgd
                go_wp2_with (go_at_call 37; (with_reducible refine (HRr.out _).mono ?_); rintro e w5 ⟨rfl, hh⟩; have hb5 := Lib.hid (below_next hbx.out hh); clear hh)
                go_roundg (n0 + 1 - (i + 1))
                case measure => exact HM.out
                case rel => exact ⟨i + 1, S, A2, n2, c2, rfl, by omega, by first | rfl | go_num, rfl, Lib.hid (by rw [HN.out]; exact HSt.out), Lib.hid (by have := hn2.out; omega), Lib.hid (HM2.out.below hb5.out), Lib.hid (below_next hbi.out hb5.out)⟩
            | true =>
              cases r with
              | false =>
                have HN : Hid (Ca.sideR sd p L (i + 1) = Ca.sideR sd p L i) := Lib.hid (by
                  have hN := hNx.out
                  rwa [if_neg (by rw [hgd.out]; simp), List.append_nil] at hN)
                clear hNx hgd
                go_wp2_with (go_at_call 37; (with_reducible refine (HRr.out _).mono ?_); rintro e w5 ⟨rfl, hh⟩; have hb5 := Lib.hid (below_next hbx.out hh); clear hh)
                go_roundg (n0 + 1 - (i + 1))
                case measure => exact HM.out
                case rel => exact ⟨i + 1, S, A2, n2, c2, rfl, by omega, by first | rfl | go_num, rfl, Lib.hid (by rw [HN.out]; exact HSt.out), Lib.hid (by have := hn2.out; omega), Lib.hid (HM2.out.below hb5.out), Lib.hid (below_next hbi.out hb5.out)⟩
              | true =>
                have hN := hNx.out
                rw [if_pos ⟨rfl, hgd.out⟩] at hN
                have HN := Lib.hid hN
                have hqb : Hid (qb = sd) := Lib.hid (by
                  have := hgd.out
                  unfold Ca.good at this
                  simp only [Bool.and_eq_true, beq_iff_eq] at this
                  exact this.1)
                clear hN hNx hgd
                go_upto_region 14 with (go_at_call 37; (with_reducible refine (HRr.out _).mono ?_); rintro e w5 ⟨rfl, hh⟩; have hb5 := Lib.hid (below_next hbx.out hh); have BA5 := Lib.hid (BA.out.below hh BA.out.lt); clear hh)
                clear c0 c1 c2' c3 c4 c5
                have HM25 := Lib.hid (HM2.out.below hb5.out)
                go_upto_block 4 with (fail)
                go_cut [13] from 72 to 84 (fun s13 wc => ∃ k : Nat, s13 = .int .i64 (k : Int) ∧ k ≤ n2 ∧ Hid (∀ x ∈ S.drop k, fst sd ⟨qi, qo, qp, qa, qpl, qb⟩ x = true) ∧ Hid (k = 0 ∨ fst sd ⟨qi, qo, qp, qa, qpl, qb⟩ (S.getD (k - 1) ord0) = false) ∧ Hid (Below w5.heap.size w5 wc))
                case first =>
                  go_wp2_with fail
                  go_loopg [13] (n2 + 1) (fun gk s13 wj => ∃ k : Nat, gk = k + 1 ∧ k ≤ n2 ∧ s13 = .int .i64 (k : Int) ∧ Hid (∀ x ∈ S.drop k, fst sd ⟨qi, qo, qp, qa, qpl, qb⟩ x = true) ∧ Hid (Below w5.heap.size w5 wj))
                  case atStart => exact ⟨n2, rfl, Nat.le_refl _, rfl, Lib.hid (by rw [List.drop_of_length_le (by rw [HlS.out]; exact Nat.le_refl _)]; intro x hx; cases hx), Lib.hid (Below.refl _ _)⟩
                  case round =>
                    obtain ⟨wj, hwj⟩ : ∃ wj, wj = wr := ⟨_, rfl⟩
                    subst hwj
                    obtain ⟨k, rfl, hk, rfl, hdr, hbj5⟩ := hrel
                    have HMj := Lib.hid (HM25.out.below hbj5.out)
                    have BAj := Lib.hid (BA5.out.below hbj5.out BA5.out.lt)
                    by_cases hk0 : 0 < k
                    · obtain ⟨x, hx⟩ : ∃ x, Hid (k = x + 1) := ⟨k - 1, Lib.hid (by omega)⟩
                      have hxL : Hid (x < S.length) := Lib.hid (by rw [HlS.out]; have := hx.out; omega)
                      have hOS := Lib.hid (HMj.out.orow HlS.out).2
                      obtain ⟨b2, o2, rfl⟩ : ∃ b o, A2 = some ⟨b, o, none⟩ := by
                        obtain ⟨b, o, e, _⟩ := hOS.out.cells hxL.out
                        exact ⟨b, o, e⟩
                      have HC0 := Lib.hid (fun wz hh => ORow.six hOS.out hxL.out (w' := wz) hh)
                      have hdc := Lib.hid (drop_cons_all (p := fun z => fst sd ⟨qi, qo, qp, qa, qpl, qb⟩ z) hxL.out)
                      have hst : Hid (S.getD (k - 1) ord0 = S.getD x ord0) := Lib.hid (by rw [hx.out]; rfl)
                      have HBf : Hid (∀ wz, Calls Try.prog 40 #[oval ⟨qi, qo, qp, qa, qpl, qb⟩, oval (S.getD x ord0)] wz (Told wz (.bool (fst sd ⟨qi, qo, qp, qa, qpl, qb⟩ (S.getD x ord0))))) := Lib.hid fun wz => by
                        have := before_calls wz ⟨qi, qo, qp, qa, qpl, qb⟩ (S.getD x ord0)
                        rwa [show ((⟨qi, qo, qp, qa, qpl, qb⟩ : Ord)).buys = sd from hqb.out] at this
                      generalize S.getD x ord0 = y at HC0 hdc hst HBf
                      obtain ⟨yi, yo, yp, ya, ypl, yb⟩ := y
                      simp only at HC0
                      unfold oval at HBf
                      simp only at HBf
                      have HS0 : Hid ((wj.drew.cell? ⟨g1, 0, none⟩ = some (.int .i64 qi) ∧ wj.drew.cell? ⟨g1, 1, none⟩ = some (.int .i64 qo) ∧ wj.drew.cell? ⟨g1, 2, none⟩ = some (.int .i64 qp) ∧ wj.drew.cell? ⟨g1, 3, none⟩ = some (.int .i64 qa) ∧ wj.drew.cell? ⟨g1, 4, none⟩ = some (.int .i64 qpl) ∧ wj.drew.cell? ⟨g1, 5, none⟩ = some (.bool qb)) ∧ (wj.drew.cell? ⟨b2, o2 + x * 6, none⟩ = some (.int .i64 yi) ∧ wj.drew.cell? ⟨b2, o2 + x * 6 + 1, none⟩ = some (.int .i64 yo) ∧ wj.drew.cell? ⟨b2, o2 + x * 6 + 2, none⟩ = some (.int .i64 yp) ∧ wj.drew.cell? ⟨b2, o2 + x * 6 + 3, none⟩ = some (.int .i64 ya) ∧ wj.drew.cell? ⟨b2, o2 + x * 6 + 4, none⟩ = some (.int .i64 ypl) ∧ wj.drew.cell? ⟨b2, o2 + x * 6 + 5, none⟩ = some (.bool yb)) ∧ Hid (Below wj.heap.size wj wj.drew)) := Lib.hid ⟨⟨BAj.out.cell 0, BAj.out.cell 1, BAj.out.cell 2, BAj.out.cell 3, BAj.out.cell 4, BAj.out.cell 5⟩, HC0.out _ (Below.refl _ _).drew, Lib.hid (Below.refl _ _).drew⟩
                      obtain ⟨r2, hr2⟩ : ∃ r2, Hid (fst sd ⟨qi, qo, qp, qa, qpl, qb⟩ ⟨yi, yo, yp, ya, ypl, yb⟩ = r2) := ⟨_, Lib.hid rfl⟩
                      rw [hr2.out] at HBf
                      have HK : Hid (∀ wz, ((wz.cell? ⟨g1, 0, none⟩ = some (.int .i64 qi) ∧ wz.cell? ⟨g1, 1, none⟩ = some (.int .i64 qo) ∧ wz.cell? ⟨g1, 2, none⟩ = some (.int .i64 qp) ∧ wz.cell? ⟨g1, 3, none⟩ = some (.int .i64 qa) ∧ wz.cell? ⟨g1, 4, none⟩ = some (.int .i64 qpl) ∧ wz.cell? ⟨g1, 5, none⟩ = some (.bool qb)) ∧ (wz.cell? ⟨b2, o2 + x * 6, none⟩ = some (.int .i64 yi) ∧ wz.cell? ⟨b2, o2 + x * 6 + 1, none⟩ = some (.int .i64 yo) ∧ wz.cell? ⟨b2, o2 + x * 6 + 2, none⟩ = some (.int .i64 yp) ∧ wz.cell? ⟨b2, o2 + x * 6 + 3, none⟩ = some (.int .i64 ya) ∧ wz.cell? ⟨b2, o2 + x * 6 + 4, none⟩ = some (.int .i64 ypl) ∧ wz.cell? ⟨b2, o2 + x * 6 + 5, none⟩ = some (.bool yb)) ∧ Hid (Below wj.heap.size wj wz)) → Calls Try.prog 40 #[.agg #[.int .i64 qi, .int .i64 qo, .int .i64 qp, .int .i64 qa, .int .i64 qpl, .bool qb], .agg #[.int .i64 yi, .int .i64 yo, .int .i64 yp, .int .i64 ya, .int .i64 ypl, .bool yb]] wz fun e w' => e = .returned (.bool r2) ∧ ((w'.cell? ⟨g1, 0, none⟩ = some (.int .i64 qi) ∧ w'.cell? ⟨g1, 1, none⟩ = some (.int .i64 qo) ∧ w'.cell? ⟨g1, 2, none⟩ = some (.int .i64 qp) ∧ w'.cell? ⟨g1, 3, none⟩ = some (.int .i64 qa) ∧ w'.cell? ⟨g1, 4, none⟩ = some (.int .i64 qpl) ∧ w'.cell? ⟨g1, 5, none⟩ = some (.bool qb)) ∧ (w'.cell? ⟨b2, o2 + x * 6, none⟩ = some (.int .i64 yi) ∧ w'.cell? ⟨b2, o2 + x * 6 + 1, none⟩ = some (.int .i64 yo) ∧ w'.cell? ⟨b2, o2 + x * 6 + 2, none⟩ = some (.int .i64 yp) ∧ w'.cell? ⟨b2, o2 + x * 6 + 3, none⟩ = some (.int .i64 ya) ∧ w'.cell? ⟨b2, o2 + x * 6 + 4, none⟩ = some (.int .i64 ypl) ∧ w'.cell? ⟨b2, o2 + x * 6 + 5, none⟩ = some (.bool yb)) ∧ Hid (Below wj.heap.size wj w'))) := Lib.hid fun wz hs => (HBf.out wz).mono (by
                        rintro e w' ⟨rfl, hb⟩
                        have hbw := below_next hs.2.2.out hb
                        have B7 := BAj.out.below hbw BAj.out.lt
                        exact ⟨rfl, ⟨B7.cell 0, B7.cell 1, B7.cell 2, B7.cell 3, B7.cell 4, B7.cell 5⟩, HC0.out _ hbw, Lib.hid hbw⟩)
                      have hkI : (0 : Int) < (k : Int) := by omega
                      have x1 : (0 : Int) ≤ (x : Int) := by omega
                      have x2 : (x : Int) < (n2 : Int) := by have := hx.out; omega
                      have qx : IntKind.i64.wrap ((k : Int) - 1) = (x : Int) := by rw [IntKind.wrap_i64]; have := hx.out; have := hn2.out; omega
                      have HMk := Lib.hid (show x + 1 < k + 1 by have := hx.out; omega)
                      have hxk := Lib.hid (show x ≤ n2 by omega)
                      have hkH := Lib.hid hk
                      cases r2 with
                      | true =>
                        have hd2 := Lib.hid (hdc.out hr2.out (by have := hdr.out; rwa [hx.out] at this))
                        go_wp2_with (fail)
                        go_region_held3 (fun wz => ((wz.cell? ⟨g1, 0, none⟩ = some (.int .i64 qi) ∧ wz.cell? ⟨g1, 1, none⟩ = some (.int .i64 qo) ∧ wz.cell? ⟨g1, 2, none⟩ = some (.int .i64 qp) ∧ wz.cell? ⟨g1, 3, none⟩ = some (.int .i64 qa) ∧ wz.cell? ⟨g1, 4, none⟩ = some (.int .i64 qpl) ∧ wz.cell? ⟨g1, 5, none⟩ = some (.bool qb)) ∧ (wz.cell? ⟨b2, o2 + x * 6, none⟩ = some (.int .i64 yi) ∧ wz.cell? ⟨b2, o2 + x * 6 + 1, none⟩ = some (.int .i64 yo) ∧ wz.cell? ⟨b2, o2 + x * 6 + 2, none⟩ = some (.int .i64 yp) ∧ wz.cell? ⟨b2, o2 + x * 6 + 3, none⟩ = some (.int .i64 ya) ∧ wz.cell? ⟨b2, o2 + x * 6 + 4, none⟩ = some (.int .i64 ypl) ∧ wz.cell? ⟨b2, o2 + x * 6 + 5, none⟩ = some (.bool yb)) ∧ Hid (Below wj.heap.size wj wz)))
                          (first | assumption | exact HS0.out)
                          ((go_at_call 40; (with_reducible refine (HK.out _ (by assumption)).mono ?_); rintro e wn ⟨rfl, hsn⟩))
                        go_wp2
                        go_roundg (x + 1)
                        case measure => exact HMk.out
                        case rel => exact ⟨x, rfl, hxk.out, by first | rfl | go_num, hd2, Lib.hid (below_next hbj5.out hsn.2.2.out)⟩
                      | false =>
                        have hstop : Hid (k = 0 ∨ fst sd ⟨qi, qo, qp, qa, qpl, qb⟩ (S.getD (k - 1) ord0) = false) := Lib.hid (.inr (by rw [hst.out]; exact hr2.out))
                        go_wp2_with (fail)
                        go_region_held3 (fun wz => ((wz.cell? ⟨g1, 0, none⟩ = some (.int .i64 qi) ∧ wz.cell? ⟨g1, 1, none⟩ = some (.int .i64 qo) ∧ wz.cell? ⟨g1, 2, none⟩ = some (.int .i64 qp) ∧ wz.cell? ⟨g1, 3, none⟩ = some (.int .i64 qa) ∧ wz.cell? ⟨g1, 4, none⟩ = some (.int .i64 qpl) ∧ wz.cell? ⟨g1, 5, none⟩ = some (.bool qb)) ∧ (wz.cell? ⟨b2, o2 + x * 6, none⟩ = some (.int .i64 yi) ∧ wz.cell? ⟨b2, o2 + x * 6 + 1, none⟩ = some (.int .i64 yo) ∧ wz.cell? ⟨b2, o2 + x * 6 + 2, none⟩ = some (.int .i64 yp) ∧ wz.cell? ⟨b2, o2 + x * 6 + 3, none⟩ = some (.int .i64 ya) ∧ wz.cell? ⟨b2, o2 + x * 6 + 4, none⟩ = some (.int .i64 ypl) ∧ wz.cell? ⟨b2, o2 + x * 6 + 5, none⟩ = some (.bool yb)) ∧ Hid (Below wj.heap.size wj wz)))
                          (first | assumption | exact HS0.out)
                          ((go_at_call 40; (with_reducible refine (HK.out _ (by assumption)).mono ?_); rintro e wn ⟨rfl, hsn⟩))
                        go_wp2_with fail
                        go_meet
                        exact ⟨k, rfl, hkH.out, hdr, hstop, Lib.hid (below_next hbj5.out hsn.2.2.out)⟩
                    · have hstop : Hid (k = 0 ∨ fst sd ⟨qi, qo, qp, qa, qpl, qb⟩ (S.getD (k - 1) ord0) = false) := Lib.hid (.inl (by omega))
                      have hkI : ¬ (0 : Int) < (k : Int) := by omega
                      have hkH := Lib.hid hk
                      clear hk0 hk
                      obtain ⟨kI, hkI2⟩ : ∃ kI, Hid ((k : Int) = kI) := ⟨_, Lib.hid rfl⟩
                      rw [hkI2.out] at hkI ⊢
                      have hkd : decide ((0 : Int) < kI) = false := by simpa using hkI
                      go_wp2_with (fail)
                      go_quiet (fail)
                      generalize hwn : World.drewN wj _ = wn
                      have hbq : Hid (Below wj.heap.size wj wn) := Lib.hid (by rw [← hwn]; exact below_self _ _)
                      clear hwn
                      go_wp2_with fail
                      go_meet
                      exact ⟨k, by rw [hkI2.out], hkH.out, hdr, hstop, Lib.hid (below_next hbj5.out hbq.out)⟩
                case rest =>
                  obtain ⟨k, rfl, hk, hdr, hstop, hbn5⟩ := hcut
                  have hbn := Lib.hid (below_next hb5.out hbn5.out)
                  have HMn := Lib.hid (HM25.out.below hbn5.out)
                  have BAn := Lib.hid (BA5.out.below hbn5.out BA5.out.lt)
                  clear HM25 BA5 hbn5
                  obtain ⟨wn, hwn⟩ : ∃ wn, wn = wc := ⟨_, rfl⟩
                  subst hwn
                  by_cases hc0 : c2 = 0
                  · have hn20 : n2 = 0 := by have := (HMn.out.orow HlS.out).1; omega
                    subst hc0
                    subst hn20
                    obtain rfl : k = 0 := by omega
                    obtain rfl : S = [] := List.eq_nil_of_length_eq_zero HlS.out
                    have HS' : Hid (Stab (fst sd) (Ca.sideR sd p L (i + 1)) [(⟨qi, qo, qp, qa, qpl, qb⟩ : Ord)]) := Lib.hid (by
                      have := rins_stab HSt.out (Nat.zero_le _) hdr.out hstop.out
                      rw [HN.out]
                      simpa using this)
                    have HC1 : Hid (∀ wz, Src Try.prog 6 22 (.slice A2 0 0) 0 [] wz) := Lib.hid fun wz => (show Mine wz wz 6 (.slice A2 0 0) 0 (ocells []) from Mine.empty _ _ _ _).src
                    have hz1 : Hid (0 + 0 ≤ maxLen ∧ (0 + 0) * 48 ≤ 140737488355328) := Lib.hid (by unfold maxLen; omega)
                    have hz2 : Hid (0 + 1 ≤ maxLen ∧ (0 + 1) * 48 ≤ 140737488355328) := Lib.hid (by unfold maxLen; omega)
                    have hz3 : Hid (1 + 0 ≤ maxLen ∧ (1 + 0) * 48 ≤ 140737488355328) := Lib.hid (by unfold maxLen; omega)
                    have hS1 : Hid (∀ wz : World, Src Try.prog 6 22 (.slice (some ⟨wz.heap.size, 0, none⟩) 1 1) 1 (ocell ⟨qi, qo, qp, qa, qpl, qb⟩) (wz.alloc (.cells (ocell ⟨qi, qo, qp, qa, qpl, qb⟩).toArray 33))) := Lib.hid fun wz => src_new Try.underlying22 wz _ _ 1 1 rfl (by simp [ocell, Value.oneCell'])
                    have hE0 : Hid (Mine wn wn 6 (.slice none 0 0) 0 []) := Lib.hid (Mine.empty _ _ _ _)
                    clear hdr hstop
                    go_upto_region 18 with (fail)
                    go_upto_region 19 with (first
                      | (at_builtin; (refine wpList_append_mine rfl (.tmp 85) (.tmp 88) 22 22 rfl 33 i1 (.agg #[.int .i64 0, .int .i64 0, .int .i64 0, .int .i64 0, .int .i64 0, .bool false]) 48 Try.underlying22 HI1.out HY0.out HY1.out HY2.out rfl (by decide) rfl hE0.out (Below.refl _ _) _ 0 [] rfl (HC1.out _) hz1.out.1 hz1.out.2 ?_); intro A3 c3 w3 hm3 hb3; rw [Nat.zero_add, List.nil_append] at hm3; rw [Nat.zero_add]; have HM3 := Lib.hid hm3; have HB3 := Lib.hid hb3; clear hm3 hb3))
                    obtain ⟨d0, d1, d2, d3, d4, d5⟩ : (w3.cell? ⟨g1, 0, none⟩ = some (.int .i64 qi) ∧ w3.cell? ⟨g1, 1, none⟩ = some (.int .i64 qo) ∧ w3.cell? ⟨g1, 2, none⟩ = some (.int .i64 qp) ∧ w3.cell? ⟨g1, 3, none⟩ = some (.int .i64 qa) ∧ w3.cell? ⟨g1, 4, none⟩ = some (.int .i64 qpl) ∧ w3.cell? ⟨g1, 5, none⟩ = some (.bool qb)) := ⟨(BAn.out.below HB3.out BAn.out.lt).cell 0, (BAn.out.below HB3.out BAn.out.lt).cell 1, (BAn.out.below HB3.out BAn.out.lt).cell 2, (BAn.out.below HB3.out BAn.out.lt).cell 3, (BAn.out.below HB3.out BAn.out.lt).cell 4, (BAn.out.below HB3.out BAn.out.lt).cell 5⟩
                    go_upto_region 20 with (first
                      | (at_builtin; (refine wpList_append_mine rfl (.tmp 90) (.tmp 92) 22 22 rfl 33 i1 (.agg #[.int .i64 0, .int .i64 0, .int .i64 0, .int .i64 0, .int .i64 0, .bool false]) 48 Try.underlying22 HI1.out HY0.out HY1.out HY2.out rfl (by decide) rfl (HM3.out.alloc _) (HB3.out.alloc HB3.out.size _) _ 1 (ocell ⟨qi, qo, qp, qa, qpl, qb⟩) rfl (hS1.out _) hz2.out.1 hz2.out.2 ?_); intro A4 c4 w4 hm4 hb4; rw [Nat.zero_add, List.nil_append] at hm4; rw [Nat.zero_add]; have HM4 := Lib.hid hm4; have HB4 := Lib.hid hb4; clear hm4 hb4))
                    clear d0 d1 d2 d3 d4 d5
                    go_wp2_with (first
                      | (at_builtin; (refine wpList_append_mine rfl (.tmp 94) (.tmp 97) 22 22 rfl 33 i1 (.agg #[.int .i64 0, .int .i64 0, .int .i64 0, .int .i64 0, .int .i64 0, .bool false]) 48 Try.underlying22 HI1.out HY0.out HY1.out HY2.out rfl (by decide) rfl HM4.out HB4.out _ 0 [] rfl (HC1.out _) hz3.out.1 hz3.out.2 ?_); intro A5 c5' w6 hm5 hb6; rw [Nat.add_zero, List.append_nil] at hm5; rw [Nat.add_zero]; have HM5 := Lib.hid hm5; have HB5 := Lib.hid hb6; clear hm5 hb6))
                    have hfin : Hid (Mine wo w6 6 (.slice A5 1 c5') 1 (ocells [(⟨qi, qo, qp, qa, qpl, qb⟩ : Ord)])) := Lib.hid (HM5.out.base (w0 := wo) (Nat.le_trans hbi.out.size hbn.out.size))
                    go_roundg (n0 + 1 - (i + 1))
                    case measure => exact HM.out
                    case rel => exact ⟨i + 1, [(⟨qi, qo, qp, qa, qpl, qb⟩ : Ord)], A5, 1, c5', rfl, by omega, by first | rfl | go_num, rfl, HS', Lib.hid ⟨rfl, by omega, hi64⟩, hfin, Lib.hid (below_next (below_next hbi.out hbn.out) HB5.out)⟩
                  · obtain ⟨b2, o2, rfl⟩ := HMn.out.lies0 hc0
                    have hka : Hid (k ≤ S.length) := Lib.hid (by rw [HlS.out]; exact hk)
                    have HS' := Lib.hid (rins_stab HSt.out hka.out hdr.out hstop.out)
                    rw [← HN.out] at HS'
                    have HC1 : Hid (∀ wz, Below wn.heap.size wn wz → Src Try.prog 6 22 (.slice (some ⟨b2, o2, none⟩) k c2) k (ocells (S.take k)) wz) := Lib.hid fun wz hb => (((HMn.out.below hb).drop HlS.out hk).2).src
                    have HC2 : Hid (∀ wz, Below wn.heap.size wn wz → Src Try.prog 6 22 (.slice (if c2 = k then some ⟨b2, o2, none⟩ else some ⟨b2, o2 + k * 6, none⟩) (n2 - k) (c2 - k)) (n2 - k) (ocells (S.drop k)) wz) := Lib.hid fun wz hb => ((HMn.out.below hb).drop_some HlS.out hk).src
                    have hnc : n2 ≤ c2 := (HMn.out.orow HlS.out).1
                    have hkc : k ≤ c2 := Nat.le_trans hk hnc
                    have hkcI : (k : Int) ≤ (c2 : Int) := by omega
                    have hkn : (k : Int) ≤ (n2 : Int) := by omega
                    have hncI : (n2 : Int) ≤ (c2 : Int) := by omega
                    have hk0 : (0 : Int) ≤ (k : Int) := by omega
                    have hz1 : Hid (0 + k ≤ maxLen ∧ (0 + k) * 48 ≤ 140737488355328) := Lib.hid (by unfold maxLen; have := hn2.out; omega)
                    have hz2 : Hid (k + 1 ≤ maxLen ∧ (k + 1) * 48 ≤ 140737488355328) := Lib.hid (by unfold maxLen; have := hn2.out; omega)
                    have hz3 : Hid (k + 1 + (n2 - k) ≤ maxLen ∧ (k + 1 + (n2 - k)) * 48 ≤ 140737488355328) := Lib.hid (by unfold maxLen; have := hn2.out; omega)
                    have hS1 : Hid (∀ wz : World, Src Try.prog 6 22 (.slice (some ⟨wz.heap.size, 0, none⟩) 1 1) 1 (ocell ⟨qi, qo, qp, qa, qpl, qb⟩) (wz.alloc (.cells (ocell ⟨qi, qo, qp, qa, qpl, qb⟩).toArray 33))) := Lib.hid fun wz => src_new Try.underlying22 wz _ _ 1 1 rfl (by simp [ocell, Value.oneCell'])
                    have hE0 : Hid (Mine wn wn 6 (.slice none 0 0) 0 []) := Lib.hid (Mine.empty _ _ _ _)
                    have hsum : Hid (k + 1 + (n2 - k) = n2 + 1) := Lib.hid (by omega)
                    clear hdr hstop hka
                    go_upto_region 18 with (fail)
                    go_upto_region 19 with (first
                      | (at_builtin; (refine wpList_append_mine rfl (.tmp 85) (.tmp 88) 22 22 rfl 33 i1 (.agg #[.int .i64 0, .int .i64 0, .int .i64 0, .int .i64 0, .int .i64 0, .bool false]) 48 Try.underlying22 HI1.out HY0.out HY1.out HY2.out rfl (by decide) rfl hE0.out (Below.refl _ _) _ k (ocells (S.take k)) rfl (HC1.out _ (Below.refl _ _)) hz1.out.1 hz1.out.2 ?_); intro A3 c3 w3 hm3 hb3; rw [Nat.zero_add, List.nil_append] at hm3; rw [Nat.zero_add]; have HM3 := Lib.hid hm3; have HB3 := Lib.hid hb3; clear hm3 hb3))
                    obtain ⟨d0, d1, d2, d3, d4, d5⟩ : (w3.cell? ⟨g1, 0, none⟩ = some (.int .i64 qi) ∧ w3.cell? ⟨g1, 1, none⟩ = some (.int .i64 qo) ∧ w3.cell? ⟨g1, 2, none⟩ = some (.int .i64 qp) ∧ w3.cell? ⟨g1, 3, none⟩ = some (.int .i64 qa) ∧ w3.cell? ⟨g1, 4, none⟩ = some (.int .i64 qpl) ∧ w3.cell? ⟨g1, 5, none⟩ = some (.bool qb)) := ⟨(BAn.out.below HB3.out BAn.out.lt).cell 0, (BAn.out.below HB3.out BAn.out.lt).cell 1, (BAn.out.below HB3.out BAn.out.lt).cell 2, (BAn.out.below HB3.out BAn.out.lt).cell 3, (BAn.out.below HB3.out BAn.out.lt).cell 4, (BAn.out.below HB3.out BAn.out.lt).cell 5⟩
                    go_upto_region 20 with (first
                      | (at_builtin; (refine wpList_append_mine rfl (.tmp 90) (.tmp 92) 22 22 rfl 33 i1 (.agg #[.int .i64 0, .int .i64 0, .int .i64 0, .int .i64 0, .int .i64 0, .bool false]) 48 Try.underlying22 HI1.out HY0.out HY1.out HY2.out rfl (by decide) rfl (HM3.out.alloc _) (HB3.out.alloc HB3.out.size _) _ 1 (ocell ⟨qi, qo, qp, qa, qpl, qb⟩) rfl (hS1.out _) hz2.out.1 hz2.out.2 ?_); intro A4 c4 w4 hm4 hb4; have HM4 := Lib.hid hm4; have HB4 := Lib.hid hb4; clear hm4 hb4))
                    clear d0 d1 d2 d3 d4 d5
                    have HC3 := Lib.hid (HC2.out w4 HB4.out)
                    by_cases hck : c2 = k
                    · rw [if_pos hck, hck, Nat.sub_self] at HC3
                      go_wp2_with (first
                        | (at_builtin; (refine wpList_append_mine rfl (.tmp 94) (.tmp 97) 22 22 rfl 33 i1 (.agg #[.int .i64 0, .int .i64 0, .int .i64 0, .int .i64 0, .int .i64 0, .bool false]) 48 Try.underlying22 HI1.out HY0.out HY1.out HY2.out rfl (by decide) rfl HM4.out HB4.out _ (n2 - k) (ocells (S.drop k)) rfl HC3.out hz3.out.1 hz3.out.2 ?_); intro A5 c5' w6 hm5 hb6; rw [hsum.out] at hm5; rw [hsum.out]; have HM5 := Lib.hid hm5; have HB5 := Lib.hid hb6; clear hm5 hb6))
                      have hfin : Hid (Mine wo w6 6 (.slice A5 (n2 + 1) c5') (n2 + 1) (ocells (S.take k ++ (⟨qi, qo, qp, qa, qpl, qb⟩ : Ord) :: S.drop k))) := Lib.hid (by
                        have h1 := HM5.out.base (w0 := wo) (Nat.le_trans hbi.out.size hbn.out.size)
                        have e : ocells (S.take k ++ (⟨qi, qo, qp, qa, qpl, qb⟩ : Ord) :: S.drop k) = ocells (S.take k) ++ ocell ⟨qi, qo, qp, qa, qpl, qb⟩ ++ ocells (S.drop k) := by
                          rw [ocells_append, show ocells ((⟨qi, qo, qp, qa, qpl, qb⟩ : Ord) :: S.drop k) = ocell ⟨qi, qo, qp, qa, qpl, qb⟩ ++ ocells (S.drop k) from rfl, List.append_assoc]
                        rw [e]; exact h1)
                      go_roundg (n0 + 1 - (i + 1))
                      case measure => exact HM.out
                      case rel => exact ⟨i + 1, S.take k ++ (⟨qi, qo, qp, qa, qpl, qb⟩ : Ord) :: S.drop k, A5, n2 + 1, c5', rfl, by omega, by first | rfl | go_num, rfl, HS', Lib.hid (by have := hn2.out; simp only [List.length_append, List.length_take, List.length_cons, List.length_drop, HlS.out]; omega), hfin, Lib.hid (below_next (below_next hbi.out hbn.out) HB5.out)⟩
                    · rw [if_neg hck] at HC3
                      go_wp2_with (first
                        | (at_builtin; (refine wpList_append_mine rfl (.tmp 94) (.tmp 97) 22 22 rfl 33 i1 (.agg #[.int .i64 0, .int .i64 0, .int .i64 0, .int .i64 0, .int .i64 0, .bool false]) 48 Try.underlying22 HI1.out HY0.out HY1.out HY2.out rfl (by decide) rfl HM4.out HB4.out _ (n2 - k) (ocells (S.drop k)) rfl HC3.out hz3.out.1 hz3.out.2 ?_); intro A5 c5' w6 hm5 hb6; rw [hsum.out] at hm5; rw [hsum.out]; have HM5 := Lib.hid hm5; have HB5 := Lib.hid hb6; clear hm5 hb6))
                      have hfin : Hid (Mine wo w6 6 (.slice A5 (n2 + 1) c5') (n2 + 1) (ocells (S.take k ++ (⟨qi, qo, qp, qa, qpl, qb⟩ : Ord) :: S.drop k))) := Lib.hid (by
                        have h1 := HM5.out.base (w0 := wo) (Nat.le_trans hbi.out.size hbn.out.size)
                        have e : ocells (S.take k ++ (⟨qi, qo, qp, qa, qpl, qb⟩ : Ord) :: S.drop k) = ocells (S.take k) ++ ocell ⟨qi, qo, qp, qa, qpl, qb⟩ ++ ocells (S.drop k) := by
                          rw [ocells_append, show ocells ((⟨qi, qo, qp, qa, qpl, qb⟩ : Ord) :: S.drop k) = ocell ⟨qi, qo, qp, qa, qpl, qb⟩ ++ ocells (S.drop k) from rfl, List.append_assoc]
                        rw [e]; exact h1)
                      go_roundg (n0 + 1 - (i + 1))
                      case measure => exact HM.out
                      case rel => exact ⟨i + 1, S.take k ++ (⟨qi, qo, qp, qa, qpl, qb⟩ : Ord) :: S.drop k, A5, n2 + 1, c5', rfl, by omega, by first | rfl | go_num, rfl, HS', Lib.hid (by have := hn2.out; simp only [List.length_append, List.length_take, List.length_cons, List.length_drop, HlS.out]; omega), hfin, Lib.hid (below_next (below_next hbi.out hbn.out) HB5.out)⟩
        ·
          obtain rfl : n0 = i := by omega
          have hSe : Hid (S = isort sd (Ca.sideOf sd p R)) := Lib.hid (by
            have h1 := HSt.out
            rw [HAs.out] at h1
            exact h1.one (fst_swo sd) (isort_stab sd _))
          have hSa : Hid (∀ o ∈ S, 1 ≤ o.amount) := Lib.hid fun o ho => (Ca.sideR_right ((HSt.out.mem (fst_swo sd) o).1 ho)).1
          rw [← hSe.out] at HT1
          have HD0 : Hid (Duo 3 6 w wr (.slice Ao n co) n (fcells (outs ++ Ca.fillGo amt (S.take 0))) (.slice A2 n2 c2) n2 (ocells S)) := Lib.hid (by
            have := Duo.of HM1.out hb.out.size hbi.out HM2.out
            rw [List.take_zero, show Ca.fillGo amt [] = [] from rfl, List.append_nil]; exact this)
          have hb3 : Hid (Below w.heap.size w wr) := Lib.hid (hb.out.trans (hbi.out.mono hb.out.size))
          have hIl := Lib.hid hn2.out.1
          have hnl := Lib.hid hn.out.1
          have hnt := Lib.hid hn.out.2
          clear HM1 hn HM2 hbi hSe HSt
          have hn264 : n2 ≤ 64 := by have := hn2.out; omega
          go_upto_region 24 with (fail)
          go_loopg [7, 15, 16] (n2 + 1) (fun gk s7 s15 s16 wi => ∃ (j : Nat) (A3 : Option Addr) (n3 c3 : Nat), gk = n2 + 1 - j ∧ j ≤ n2 ∧ s16 = .int .i64 (j : Int) ∧ s15 = .int .i64 (Ca.leftGo amt (S.take j)) ∧ s7 = .slice A3 n3 c3 ∧ Hid ((outs ++ Ca.fillGo amt (S.take j)).length = n3 ∧ n3 ≤ n + j) ∧ Hid (Duo 3 6 w wi (.slice A3 n3 c3) n3 (fcells (outs ++ Ca.fillGo amt (S.take j))) (.slice A2 n2 c2) n2 (ocells S)) ∧ Hid (Below w.heap.size w wi))
          case atStart => exact ⟨0, Ao, n, co, rfl, Nat.zero_le _, rfl, rfl, rfl, Lib.hid ⟨by rw [List.take_zero, show Ca.fillGo amt [] = [] from rfl, List.append_nil]; exact hnl.out, Nat.le_refl _⟩, HD0, hb3⟩
          case round =>
            clear HD0 hb3
            obtain ⟨j, A3, n3, c3, rfl, hj, rfl, rfl, rfl, hn3, HD, hbj⟩ := hrel
            have j0 : (0 : Int) ≤ (j : Int) := by omega
            by_cases hjl : j < n2
            · have hjI : (j : Int) < (n2 : Int) := by omega
              have hjL : Hid (j < S.length) := Lib.hid (by rw [hIl.out]; exact hjl)
              by_cases hposI : 0 < Ca.leftGo amt (S.take j)
              · have hOI := Lib.hid (HD.out.snd.orow hIl.out).2
                obtain ⟨b2, o2, rfl⟩ : ∃ b o, A2 = some ⟨b, o, none⟩ := by
                  obtain ⟨b, o, e, _⟩ := hOI.out.cells hjL.out
                  exact ⟨b, o, e⟩
                have HX0 := Lib.hid (fun wz hh => ORow.six hOI.out hjL.out (w' := wz) hh)
                have hlr := Ca.leftGo_range (lo := -9223372036854775808) (hi := 9223372036854775807) (by decide) (S.take j) amt Hr.out.1 Hr.out.2
                have HMj := Lib.hid (show n2 + 1 - (j + 1) < n2 + 1 - j by omega)
                have hft := Lib.hid (Ca.fillGo_take S amt hjL.out)
                have qa1 := Lib.hid (hSa.out _ (getD_mem hjL.out))
                have hj64 := Lib.hid (show n3 + 1 ≤ 64 * 3 + 1 by have := hn3.out.2; have := hnt.out; have := hn2.out; omega)
                have HXD0 : Hid (∀ wz v1 n1 xs1, Duo 3 6 w wz v1 n1 xs1 (.slice (some ⟨b2, o2, none⟩) n2 c2) n2 (ocells S) → wz.cell? ⟨b2, o2 + j * 6, none⟩ = some (.int .i64 (S.getD j ord0).id) ∧ wz.cell? ⟨b2, o2 + j * 6 + 1, none⟩ = some (.int .i64 (S.getD j ord0).owner)) := Lib.hid fun wz v1 n1 xs1 hd => by
                  have := ORow.six (hd.snd.orow hIl.out).2 hjL.out (Below.refl _ _)
                  exact ⟨this.1, this.2.1⟩
                generalize S.getD j ord0 = q at HX0 hft qa1 HXD0
                obtain ⟨qi, qo, qp, qa, qpl, qb⟩ := q
                have HXD : Hid (∀ wz v1 n1 xs1, Duo 3 6 w wz v1 n1 xs1 (.slice (some ⟨b2, o2, none⟩) n2 c2) n2 (ocells S) → wz.cell? ⟨b2, o2 + j * 6, none⟩ = some (.int .i64 qi) ∧ wz.cell? ⟨b2, o2 + j * 6 + 1, none⟩ = some (.int .i64 qo)) := Lib.hid HXD0.out
                have HX : Hid (∀ wz, Below wr.heap.size wr wz → wz.cell? ⟨b2, o2 + j * 6, none⟩ = some (.int .i64 qi) ∧ wz.cell? ⟨b2, o2 + j * 6 + 1, none⟩ = some (.int .i64 qo)) := Lib.hid fun wz hh => ⟨(HX0.out wz hh).1, (HX0.out wz hh).2.1⟩
                obtain ⟨c0, c1, c3x⟩ : wr.cell? ⟨b2, o2 + j * 6, none⟩ = some (.int .i64 qi) ∧ wr.cell? ⟨b2, o2 + j * 6 + 1, none⟩ = some (.int .i64 qo) ∧ wr.cell? ⟨b2, o2 + j * 6 + 3, none⟩ = some (.int .i64 qa) := ⟨(HX0.out _ (Below.refl _ _)).1, (HX0.out _ (Below.refl _ _)).2.1, (HX0.out _ (Below.refl _ _)).2.2.2.1⟩
                generalize Ca.leftGo amt (S.take j) = l at hft hlr hposI ⊢
                generalize Ca.fillGo amt (S.take j) = fo at hft hn3 HD
                have qa2 : 1 ≤ qa := qa1.out
                by_cases hlq : l ≤ qa
                · have qs : IntKind.i64.wrap (l - l) = l - l := by rw [IntKind.wrap_i64]; omega
                  have HMIN1 : Hid (min l qa = l) := Lib.hid (by omega)
                  have hlq2 : ¬ qa < l := by omega
                  clear qa2 hlr
                  obtain ⟨hfl, hll⟩ := hft.out hposI qa1.out
                  have hjn : Hid (j + 1 ≤ n2) := Lib.hid (by omega)
                  (try simp only at hfl hll)
                  rw [HMIN1.out] at hfl hll
                  have hA1 : Hid (n3 + 1 ≤ maxLen) := Lib.hid (by have := hj64.out; unfold maxLen; omega)
                  have hA2 : Hid ((n3 + 1) * 24 ≤ 140737488355328) := Lib.hid (by have := hj64.out; omega)
                  have HFL := Lib.hid hfl
                  have HLL := Lib.hid hll
                  clear hfl hll hft
                  go_upto_region 27 with (fail)
                  go_region_held3 (fun wx => wx.cell? ⟨b2, o2 + j * 6, none⟩ = some (.int .i64 qi) ∧ wx.cell? ⟨b2, o2 + j * 6 + 1, none⟩ = some (.int .i64 qo))
                    (first | (with_reducible exact HXD.out _ _ _ _ hd4) | exact HX.out _ (Below.refl _ _).drew | exact HX.out _ (Below.refl _ _) | exact HX.out _ ((Below.refl _ _).alloc (Nat.le_refl _) _).drew)
                    ((refine step_append_duo (by rfl) _ _ 25 25 (by rfl) 44 j1 (.agg #[.int .i64 0, .int .i64 0, .int .i64 0]) 24 Try.underlying25 HJ1.out HZ0.out HZ1.out HZ2.out rfl (by decide) (by rfl) ((HD.out.alloc _).drew) ((hbj.out.alloc hbj.out.size _).drew) _ 1 (fcell ⟨qi, qo, l⟩) (by rfl) (src_new_drew Try.underlying25 wr _ (fcell ⟨qi, qo, l⟩) 1 1 rfl (by simp [fcell, Value.oneCell'])) hA1.out hA2.out ?_; intro A4 c4 w4 hd4 hb4))
                  have HD4 := Lib.hid hd4
                  have HB4 := Lib.hid hb4
                  clear hd4 hb4
                  go_wp2
                  go_roundg (n2 + 1 - (j + 1))
                  case measure => exact HMj.out
                  case rel => exact ⟨j + 1, A4, n3 + 1, c4, rfl, hjn.out, by first | rfl | go_num, by first | (rw [HLL.out]; done) | (rw [HLL.out]; simp), rfl, Lib.hid ⟨by rw [HFL.out, ← List.append_assoc, List.length_append, hn3.out.1]; rfl, by have := hn3.out; omega⟩, Lib.hid (by rw [HFL.out, ← List.append_assoc, fcells_append]; exact HD4.out), HB4⟩
                · have qs : IntKind.i64.wrap (l - qa) = l - qa := by rw [IntKind.wrap_i64]; omega
                  have HMIN1 : Hid (min l qa = qa) := Lib.hid (by omega)
                  have hlq2 : qa < l := by omega
                  clear qa2 hlr
                  obtain ⟨hfl, hll⟩ := hft.out hposI qa1.out
                  have hjn : Hid (j + 1 ≤ n2) := Lib.hid (by omega)
                  (try simp only at hfl hll)
                  rw [HMIN1.out] at hfl hll
                  have hA1 : Hid (n3 + 1 ≤ maxLen) := Lib.hid (by have := hj64.out; unfold maxLen; omega)
                  have hA2 : Hid ((n3 + 1) * 24 ≤ 140737488355328) := Lib.hid (by have := hj64.out; omega)
                  have HFL := Lib.hid hfl
                  have HLL := Lib.hid hll
                  clear hfl hll hft
                  go_upto_region 27 with (fail)
                  go_region_held3 (fun wx => wx.cell? ⟨b2, o2 + j * 6, none⟩ = some (.int .i64 qi) ∧ wx.cell? ⟨b2, o2 + j * 6 + 1, none⟩ = some (.int .i64 qo))
                    (first | (with_reducible exact HXD.out _ _ _ _ hd4) | exact HX.out _ (Below.refl _ _).drew | exact HX.out _ (Below.refl _ _) | exact HX.out _ ((Below.refl _ _).alloc (Nat.le_refl _) _).drew)
                    ((refine step_append_duo (by rfl) _ _ 25 25 (by rfl) 44 j1 (.agg #[.int .i64 0, .int .i64 0, .int .i64 0]) 24 Try.underlying25 HJ1.out HZ0.out HZ1.out HZ2.out rfl (by decide) (by rfl) ((HD.out.alloc _).drew) ((hbj.out.alloc hbj.out.size _).drew) _ 1 (fcell ⟨qi, qo, qa⟩) (by rfl) (src_new_drew Try.underlying25 wr _ (fcell ⟨qi, qo, qa⟩) 1 1 rfl (by simp [fcell, Value.oneCell'])) hA1.out hA2.out ?_; intro A4 c4 w4 hd4 hb4))
                  have HD4 := Lib.hid hd4
                  have HB4 := Lib.hid hb4
                  clear hd4 hb4
                  go_wp2
                  go_roundg (n2 + 1 - (j + 1))
                  case measure => exact HMj.out
                  case rel => exact ⟨j + 1, A4, n3 + 1, c4, rfl, hjn.out, by first | rfl | go_num, by first | (rw [HLL.out]; done) | (rw [HLL.out]; simp), rfl, Lib.hid ⟨by rw [HFL.out, ← List.append_assoc, List.length_append, hn3.out.1]; rfl, by have := hn3.out; omega⟩, Lib.hid (by rw [HFL.out, ← List.append_assoc, fcells_append]; exact HD4.out), HB4⟩
              · have hdone := Lib.hid (Ca.fillGo_done S amt (i := j) (by omega))
                generalize Ca.leftGo amt (S.take j) = l at hposI ⊢
                have hMf := Lib.hid HD.out.fst
                have hE2 : Hid (outs ++ Ca.fillGo amt (S.take j) = Ca.fillsTo R p amt (t + 1)) := Lib.hid (by rw [HT1.out, hdone.out])
                rw [hE2.out] at hMf hn3
                clear HD hdone
                go_wp2
                go_roundg (3 - (t + 1))
                case measure => exact HMt.out
                case rel => exact ⟨t + 1, A3, n3, c3, rfl, by omega, by first | rfl | go_num, rfl, Lib.hid ⟨hn3.out.1, by have := hn3.out.2; have := hnt.out; have := hn2.out; omega⟩, hMf, hbj⟩
            · have hjI : ¬ (j : Int) < (n2 : Int) := by omega
              have hdone : Hid (Ca.fillGo amt (S.take j) = Ca.fillGo amt S) := Lib.hid (by rw [List.take_of_length_le (by rw [hIl.out]; omega)])
              generalize Ca.leftGo amt (S.take j) = l
              have hMf := Lib.hid HD.out.fst
              have hE2 : Hid (outs ++ Ca.fillGo amt (S.take j) = Ca.fillsTo R p amt (t + 1)) := Lib.hid (by rw [HT1.out, hdone.out])
              rw [hE2.out] at hMf hn3
              clear HD hdone
              go_wp2
              go_roundg (3 - (t + 1))
              case measure => exact HMt.out
              case rel => exact ⟨t + 1, A3, n3, c3, rfl, by omega, by first | rfl | go_num, rfl, Lib.hid ⟨hn3.out.1, by have := hn3.out.2; have := hnt.out; have := hn2.out; omega⟩, hMf, hbj⟩
    · obtain rfl : t = 2 := by omega
      have hfin : Hid (FLeft w T (.returned (.slice Ao n co)) wr) := Lib.hid (by
        have h1 := HM1.out
        have h2 := hn.out.1
        rw [HE.out] at h1 h2
        subst h2
        exact ⟨Ao, co, rfl, h1, hb.out⟩)
      go_wp2
      refine bodyPost_ret (by simp [results, Try.results18, asAddr, go_sem]; rfl) rfl ?_
      exact hfin.out
end Go.Proofs.Ytilbhnloelgpdaa
