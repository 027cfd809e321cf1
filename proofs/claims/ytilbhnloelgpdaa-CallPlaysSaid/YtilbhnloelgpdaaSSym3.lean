/- symMergeCmpFunc, whole. -/
import Derived.Test.YtilbhnloelgpdaaSSym2
namespace Go.Proofs.Ytilbhnloelgpdaa
open Go.RowKit
set_option linter.unusedVariables false
set_option linter.unusedSimpArgs false
structure SymCut (sd : Bool) (U V U1 U2 V1 V2 : List Ord) : Prop where
  eu : U = U1 ++ U2
  ev : V = V1 ++ V2
  s1 : Sortd (fst sd) U1
  s2 : Sortd (fst sd) U2
  t1 : Sortd (fst sd) V1
  t2 : Sortd (fst sd) V2
  b1 : ∀ o ∈ U1 ++ V1, o.buys = sd
  b2 : ∀ o ∈ U2 ++ V2, o.buys = sd
  all : ∀ L R, Stab (fst sd) (U1 ++ V1) L → Stab (fst sd) (U2 ++ V2) R → Stab (fst sd) (U ++ V) (L ++ R)
theorem sym_cut {sd : Bool} {U V : List Ord} (h : SymPre sd U V) {s t : Nat} (hs : s ≤ U.length) (ht : t ≤ V.length)
    (h1 : s = U.length ∨ t = 0 ∨ fst sd (V.getD (t - 1) ord0) (U.getD s ord0) = true) (h2 : s = 0 ∨ t = V.length ∨ fst sd (V.getD t ord0) (U.getD (s - 1) ord0) = false) :
    ∃ U1 U2 V1 V2, SymCut sd U V U1 U2 V1 V2 ∧ U1.length = s ∧ U2.length = U.length - s ∧ V1.length = t ∧ V2.length = V.length - t := by
  refine ⟨U.take s, U.drop s, V.take t, V.drop t, ⟨(List.take_append_drop _ _).symm, (List.take_append_drop _ _).symm, sortd_take h.su s, sortd_drop h.su s, sortd_take h.sv t, sortd_drop h.sv t, fun o ho => h.bu o ?_, fun o ho => h.bu o ?_, fun L R hL hR => mrg_cut h.su h.sv hs ht h1 h2 hL hR⟩, by rw [List.length_take]; omega, by rw [List.length_drop], by rw [List.length_take]; omega, by rw [List.length_drop]⟩
  · rcases List.mem_append.1 ho with ho | ho
    · exact List.mem_append_left _ (List.mem_of_mem_take ho)
    · exact List.mem_append_right _ (List.mem_of_mem_take ho)
  · rcases List.mem_append.1 ho with ho | ho
    · exact List.mem_append_left _ (List.mem_of_mem_drop ho)
    · exact List.mem_append_right _ (List.mem_of_mem_drop ho)
theorem list_zero {M : List Ord} (h : M.length = 0) : M = [] := List.eq_nil_of_length_eq_zero h
set_option maxHeartbeats 16000000 in
set_option maxRecDepth 100000 in
theorem sym_many (w0 : World) (A : Option Addr) (m c : Nat) (hm : m ≤ 64) (sd : Bool) (N : Nat) (IH : Hid (∀ P U V R, U.length + V.length ≤ N → SymPre sd U V → SymOk w0 A m c sd P U V R)) (P U V R : List Ord) (hp : SymPre sd U V) (hN : U.length + V.length ≤ N + 1) (hu2 : 2 ≤ U.length) (hv2 : 2 ≤ V.length) : SymOk w0 A m c sd P U V R := by
  intro w a k e h ha hk he
  have hlen : P.length + (U.length + (V.length + R.length)) = m := by have := h.len; simp only [List.length_append] at this; omega
  have H := Lib.hid h
  have Hp := Lib.hid hp
  have HUu : Hid (∀ z, z < U.length → (P ++ (U ++ (V ++ R))).getD (a + z) ord0 = U.getD z ord0) := Lib.hid fun z hz => by
    have := at_u P U V R hz
    rwa [ha] at this
  have HVv : Hid (∀ z, z < V.length → (P ++ (U ++ (V ++ R))).getD (k + z) ord0 = V.getD z ord0 ∧ (V.getD z ord0).buys = sd) := Lib.hid fun z hz => ⟨by
    have := at_v P U V R hz
    rwa [ha, hk] at this, hp.bu _ (List.mem_append_right _ (getD_mem hz))⟩
  obtain ⟨u, hu⟩ : ∃ u, Hid (U.length = u) := ⟨_, Lib.hid rfl⟩
  obtain ⟨v, hv⟩ : ∃ v, Hid (V.length = v) := ⟨_, Lib.hid rfl⟩
  have hPa := Lib.hid ha
  rw [ha] at hlen
  rw [hu.out] at hlen hk HUu hu2 hN
  rw [hv.out] at hlen he HVv hv2 hN
  obtain ⟨md, hmd⟩ : ∃ md, Hid ((a + e) / 2 = md) := ⟨_, Lib.hid rfl⟩
  obtain ⟨n, hn⟩ : ∃ n, Hid (md + k = n) := ⟨_, Lib.hid rfl⟩
  obtain ⟨pn, hpn⟩ : ∃ pn, Hid (n - 1 = pn) := ⟨_, Lib.hid rfl⟩
  have hb : Hid (P.length = a ∧ a + u = k ∧ k + v = e ∧ a + (u + (v + R.length)) = m ∧ m ≤ 64 ∧ 2 * md ≤ a + e ∧ a + e ≤ 2 * md + 1 ∧ md + k = n ∧ pn + 1 = n ∧ 2 ≤ u ∧ 2 ≤ v ∧ u + v ≤ N + 1) := Lib.hid (by have := hmd.out; have := hn.out; have := hpn.out; have := hPa.out; omega)
  have q1 : IntKind.i64.wrap ((k : Int) - (a : Int)) = (u : Int) := w_sub hk (by omega)
  have q0 : IntKind.i64.wrap ((e : Int) - (k : Int)) = (v : Int) := w_sub he (by omega)
  have hne : ((u : Int) == 1) = false := by rw [beq_eq_false_iff_ne]; omega
  have hne2 : ((v : Int) == 1) = false := by rw [beq_eq_false_iff_ne]; omega
  have q8 := w_add (a := md) (b := k) (c := n) hn.out (by have := hb.out; omega)
  have q9 := w_less (a := n) (c := pn) (by have := hb.out; omega) (by have := hb.out; omega)
  clear h hp ha hk he hlen hu2 hv2 hN
  obtain ⟨F, hF⟩ : ∃ F, Hid (P ++ (U ++ (V ++ R)) = F) := ⟨_, Lib.hid rfl⟩
  rw [hF.out] at H HUu HVv
  by_cases hkm : md < k
  · have hkI : (md : Int) < (k : Int) := by omega
    obtain ⟨lo, hlo⟩ : ∃ lo, Hid (n - e = lo) := ⟨_, Lib.hid rfl⟩
    have q10 := w_sub (a := n) (b := e) (c := lo) (by have := hb.out; have := hlo.out; omega) (by have := hb.out; omega)
    have HLH : Hid ((lo + e = md + k ∧ md = md ∧ md < k) ∨ (lo = a ∧ md = k ∧ k ≤ md)) := Lib.hid (.inl (by have := hb.out; have := hlo.out; omega))
    obtain ⟨q2, q3, q4⟩ := w_mid (i := a) (j := e) (x := md) hmd.out (by have := hb.out; omega)
    go_enter Try.func72, Try.ntmps72
    go_upto_region 25 with (fail)
    rw [q4]
    clear q2 q3 q4
    go_upto_region 33 with (fail)
    go_loopg [20, 21, 23] (md - lo) (fun gk s20 s21 s23 wr => ∃ (s t : Nat), gk = t - s ∧ lo ≤ s ∧ s ≤ t ∧ t ≤ md ∧ s20 = .int .i64 (s : Int) ∧ s21 = .int .i64 (t : Int) ∧ Hid (s = lo ∨ fst sd (V.getD (md - s) ord0) (U.getD (s - 1 - a) ord0) = false) ∧ Hid (t = md ∨ fst sd (V.getD (md - 1 - t) ord0) (U.getD (t - a) ord0) = true) ∧ Hid (Sw w0 wr A m c F))
    case atStart => exact ⟨lo, md, rfl, Nat.le_refl _, by have := HLH.out; have := hb.out; omega, Nat.le_refl _, rfl, rfl, Lib.hid (.inl rfl), Lib.hid (.inl rfl), H⟩
    case round =>
      clear H
      obtain ⟨s, t, rfl, hls, hst, hth, rfl, rfl, h1, h2, HW1⟩ := hrel
      by_cases hlt : s < t
      · obtain ⟨y, hz⟩ : ∃ y, Hid ((s + t) / 2 = y) := ⟨_, Lib.hid rfl⟩
        have hz1 : s ≤ y ∧ y < t := by have := hz.out; omega
        have hrng : Hid (a ≤ y ∧ y - a < u ∧ md - 1 - y < v ∧ k + (md - 1 - y) + y = pn ∧ y < md) := Lib.hid (by have := HLH.out; have := hb.out; omega)
        have hijI : (s : Int) < (t : Int) := by omega
        obtain ⟨x, hxe⟩ : ∃ x, Hid (k + (md - 1 - y) = x) := ⟨_, Lib.hid rfl⟩
        have hx : x < m := by have := hxe.out; have := hrng.out; have := hb.out; omega
        have hy : y < m := by have := hrng.out; have := hb.out; omega
        obtain ⟨y', hy'⟩ : ∃ y', Hid (y + 1 = y') := ⟨_, Lib.hid rfl⟩
        have q5 := w_one hy'.out (by have := hy'.out; omega)
        have q6 := w_sub (a := pn) (b := y) (c := x) (by have := hrng.out; have := hxe.out; omega) (by have := hb.out; omega)
        have HM1 := Lib.hid (show t - (y + 1) < t - s by omega)
        have HM2 := Lib.hid (show y - s < t - s by omega)
        obtain ⟨p, hpv⟩ : ∃ p, Hid (V.getD (md - 1 - y) ord0 = p) := ⟨_, Lib.hid rfl⟩
        obtain ⟨q, hqv⟩ : ∃ q, Hid (U.getD (y - a) ord0 = q) := ⟨_, Lib.hid rfl⟩
        have HG : Hid (F.getD x ord0 = p ∧ F.getD y ord0 = q) := Lib.hid ⟨by rw [← hxe.out, (HVv.out _ (by have := hrng.out; omega)).1, hpv.out], by
          have := HUu.out (y - a) (by have := hrng.out; omega)
          rw [show a + (y - a) = y from by have := hrng.out; omega] at this
          rw [this, hqv.out]⟩
        have hpb : Hid (p.buys = sd) := Lib.hid (by rw [← hpv.out]; exact (HVv.out _ (by have := hrng.out; omega)).2)
        obtain ⟨q2, q3, q4⟩ := w_mid (i := s) (j := t) (x := y) hz.out (by have := hb.out; have := HLH.out; omega)
        go_upto_region 35 with (fail)
        rw [q4]
        clear q2 q3 q4
        obtain ⟨b, o, rfl⟩ := HW1.out.lies (by omega)
        obtain ⟨c0, c1, c2, c3, c4, c5⟩ := HW1.out.six hx
        obtain ⟨d0, d1, d2, d3, d4, d5⟩ := HW1.out.six hy
        rw [HG.out.1] at c0 c1 c2 c3 c4 c5
        rw [HG.out.2] at d0 d1 d2 d3 d4 d5
        have x1 : (0 : Int) ≤ (x : Int) := by omega
        have x2 : (x : Int) < (m : Int) := by omega
        have y1 : (0 : Int) ≤ (y : Int) := by omega
        have y2 : (y : Int) < (m : Int) := by omega
        have hAc : Hid (acmp p q < 0 ↔ fst sd p q = true) := Lib.hid (by
          have := acmp_fst p q
          rwa [hpb.out] at this)
        obtain ⟨r, hr⟩ : ∃ r, Hid (acmp p q = r) := ⟨_, Lib.hid rfl⟩
        rw [hr.out] at hAc
        have HS0 : Hid ((wr.drew.cell? ⟨b, o + x * 6, none⟩ = some (.int .i64 p.id) ∧ wr.drew.cell? ⟨b, o + x * 6 + 1, none⟩ = some (.int .i64 p.owner) ∧ wr.drew.cell? ⟨b, o + x * 6 + 2, none⟩ = some (.int .i64 p.price) ∧ wr.drew.cell? ⟨b, o + x * 6 + 3, none⟩ = some (.int .i64 p.amount) ∧ wr.drew.cell? ⟨b, o + x * 6 + 4, none⟩ = some (.int .i64 p.place) ∧ wr.drew.cell? ⟨b, o + x * 6 + 5, none⟩ = some (.bool p.buys)) ∧ (wr.drew.cell? ⟨b, o + y * 6, none⟩ = some (.int .i64 q.id) ∧ wr.drew.cell? ⟨b, o + y * 6 + 1, none⟩ = some (.int .i64 q.owner) ∧ wr.drew.cell? ⟨b, o + y * 6 + 2, none⟩ = some (.int .i64 q.price) ∧ wr.drew.cell? ⟨b, o + y * 6 + 3, none⟩ = some (.int .i64 q.amount) ∧ wr.drew.cell? ⟨b, o + y * 6 + 4, none⟩ = some (.int .i64 q.place) ∧ wr.drew.cell? ⟨b, o + y * 6 + 5, none⟩ = some (.bool q.buys)) ∧ Hid (Below wr.heap.size wr wr.drew)) := Lib.hid ⟨⟨c0, c1, c2, c3, c4, c5⟩, ⟨d0, d1, d2, d3, d4, d5⟩, Lib.hid (Below.refl _ _).drew⟩
        have HK : Hid (∀ wx, ((wx.cell? ⟨b, o + x * 6, none⟩ = some (.int .i64 p.id) ∧ wx.cell? ⟨b, o + x * 6 + 1, none⟩ = some (.int .i64 p.owner) ∧ wx.cell? ⟨b, o + x * 6 + 2, none⟩ = some (.int .i64 p.price) ∧ wx.cell? ⟨b, o + x * 6 + 3, none⟩ = some (.int .i64 p.amount) ∧ wx.cell? ⟨b, o + x * 6 + 4, none⟩ = some (.int .i64 p.place) ∧ wx.cell? ⟨b, o + x * 6 + 5, none⟩ = some (.bool p.buys)) ∧ (wx.cell? ⟨b, o + y * 6, none⟩ = some (.int .i64 q.id) ∧ wx.cell? ⟨b, o + y * 6 + 1, none⟩ = some (.int .i64 q.owner) ∧ wx.cell? ⟨b, o + y * 6 + 2, none⟩ = some (.int .i64 q.price) ∧ wx.cell? ⟨b, o + y * 6 + 3, none⟩ = some (.int .i64 q.amount) ∧ wx.cell? ⟨b, o + y * 6 + 4, none⟩ = some (.int .i64 q.place) ∧ wx.cell? ⟨b, o + y * 6 + 5, none⟩ = some (.bool q.buys)) ∧ Hid (Below wr.heap.size wr wx)) → Calls Try.prog 39 #[.agg #[.int .i64 p.id, .int .i64 p.owner, .int .i64 p.price, .int .i64 p.amount, .int .i64 p.place, .bool p.buys], .agg #[.int .i64 q.id, .int .i64 q.owner, .int .i64 q.price, .int .i64 q.amount, .int .i64 q.place, .bool q.buys]] wx fun e w' => e = .returned (.int .i64 r) ∧ ((w'.cell? ⟨b, o + x * 6, none⟩ = some (.int .i64 p.id) ∧ w'.cell? ⟨b, o + x * 6 + 1, none⟩ = some (.int .i64 p.owner) ∧ w'.cell? ⟨b, o + x * 6 + 2, none⟩ = some (.int .i64 p.price) ∧ w'.cell? ⟨b, o + x * 6 + 3, none⟩ = some (.int .i64 p.amount) ∧ w'.cell? ⟨b, o + x * 6 + 4, none⟩ = some (.int .i64 p.place) ∧ w'.cell? ⟨b, o + x * 6 + 5, none⟩ = some (.bool p.buys)) ∧ (w'.cell? ⟨b, o + y * 6, none⟩ = some (.int .i64 q.id) ∧ w'.cell? ⟨b, o + y * 6 + 1, none⟩ = some (.int .i64 q.owner) ∧ w'.cell? ⟨b, o + y * 6 + 2, none⟩ = some (.int .i64 q.price) ∧ w'.cell? ⟨b, o + y * 6 + 3, none⟩ = some (.int .i64 q.amount) ∧ w'.cell? ⟨b, o + y * 6 + 4, none⟩ = some (.int .i64 q.place) ∧ w'.cell? ⟨b, o + y * 6 + 5, none⟩ = some (.bool q.buys)) ∧ Hid (Below wr.heap.size wr w'))) := Lib.hid fun wx hs => (ahead_calls wx p q).mono (by
          rintro e w' ⟨rfl, hb⟩
          have hbw := below_next hs.2.2.out hb
          refine ⟨by rw [hr.out], ?_, ?_, Lib.hid hbw⟩
          · have := (HW1.out.below hbw).six hx
            rwa [HG.out.1] at this
          · have := (HW1.out.below hbw).six hy
            rwa [HG.out.2] at this)
        clear c0 c1 c2 c3 c4 c5 d0 d1 d2 d3 d4 d5
        go_wp2_with (fail)
        go_region_held3 (fun wx => ((wx.cell? ⟨b, o + x * 6, none⟩ = some (.int .i64 p.id) ∧ wx.cell? ⟨b, o + x * 6 + 1, none⟩ = some (.int .i64 p.owner) ∧ wx.cell? ⟨b, o + x * 6 + 2, none⟩ = some (.int .i64 p.price) ∧ wx.cell? ⟨b, o + x * 6 + 3, none⟩ = some (.int .i64 p.amount) ∧ wx.cell? ⟨b, o + x * 6 + 4, none⟩ = some (.int .i64 p.place) ∧ wx.cell? ⟨b, o + x * 6 + 5, none⟩ = some (.bool p.buys)) ∧ (wx.cell? ⟨b, o + y * 6, none⟩ = some (.int .i64 q.id) ∧ wx.cell? ⟨b, o + y * 6 + 1, none⟩ = some (.int .i64 q.owner) ∧ wx.cell? ⟨b, o + y * 6 + 2, none⟩ = some (.int .i64 q.price) ∧ wx.cell? ⟨b, o + y * 6 + 3, none⟩ = some (.int .i64 q.amount) ∧ wx.cell? ⟨b, o + y * 6 + 4, none⟩ = some (.int .i64 q.place) ∧ wx.cell? ⟨b, o + y * 6 + 5, none⟩ = some (.bool q.buys)) ∧ Hid (Below wr.heap.size wr wx)))
          (first | assumption | exact HS0.out)
          ((go_at_call 39; (with_reducible refine (HK.out _ (by assumption)).mono ?_); rintro e wn ⟨rfl, hsn⟩))
        obtain ⟨_, _, hbn⟩ := hsn
        have HWn := Lib.hid (HW1.out.below hbn.out)
        clear HS0 HK HW1 HG
        by_cases hneg : r < 0
        · have h2n : Hid (y = md ∨ fst sd (V.getD (md - 1 - y) ord0) (U.getD (y - a) ord0) = true) := Lib.hid (.inr (by
            rw [hpv.out, hqv.out]; exact hAc.out.1 hneg))
          have hdb : (!decide (r < 0)) = false := by simp [hneg]
          rw [hdb]
          clear hdb
          go_wp2
          go_roundg (y - s)
          case measure => exact HM2.out
          case rel => exact ⟨s, y, rfl, hls, by omega, by omega, rfl, by first | rfl | go_num, h1, h2n, HWn⟩
        · have h1n : Hid (y' = lo ∨ fst sd (V.getD (md - y') ord0) (U.getD (y' - 1 - a) ord0) = false) := Lib.hid (.inr (by
            rw [← hy'.out, Nat.add_sub_cancel, show md - (y + 1) = md - 1 - y from by omega, hpv.out, hqv.out]
            cases hq : fst sd p q with
            | false => rfl
            | true => exact absurd (hAc.out.2 hq) hneg))
          have hdb : (!decide (r < 0)) = true := by rw [decide_eq_false hneg]; rfl
          rw [hdb]
          clear hdb
          have hy2 := hy'.out
          go_wp2
          go_roundg (t - (y + 1))
          case measure => exact HM1.out
          case rel => exact ⟨y', t, by rw [hy'.out], by have := hy'.out; omega, by have := hy'.out; omega, hth, rfl, rfl, h1n, h2, HWn⟩
      · obtain rfl : s = t := by omega
        have hijI : ¬ (s : Int) < (s : Int) := by omega
        obtain ⟨U1, U2, V1, V2, hCt, l1, l2, l3, l4⟩ := sym_cut (s := s - a) (t := md - s) Hp.out (by have := HLH.out; have := hb.out; have := hu.out; omega) (by have := HLH.out; have := hb.out; have := hv.out; omega)
          (by
            have := HLH.out
            have := hb.out
            rcases h2.out with h | h
            · have := hu.out
              omega
            · exact .inr (.inr (by rw [show md - s - 1 = md - 1 - s from by omega]; exact h)))
          (by
            have := HLH.out
            have := hb.out
            rcases h1.out with h | h
            · have := hv.out
              omega
            · exact .inr (.inr (by rw [show s - a - 1 = s - 1 - a from by omega]; exact h)))
        obtain ⟨en, hen⟩ : ∃ en, Hid (md + k - s = en) := ⟨_, Lib.hid rfl⟩
        have hAr : Hid (P.length = a ∧ a + U1.length = s ∧ s + U2.length = k ∧ s + V1.length = md ∧ md + U2.length = en ∧ en + V2.length = e ∧ k + V1.length = en ∧ s ≤ md ∧ md < e ∧ a < md ∧ e - a ≤ N + 1) := Lib.hid (by have := HLH.out; have := hb.out; have := hu.out; have := hv.out; have := hen.out; omega)
        have HCt := Lib.hid hCt
        have q7 := w_sub (a := n) (b := s) (c := en) (by have := hb.out; have := hen.out; have := HLH.out; omega) (by have := hb.out; omega)
        have HA1 : Hid (Sw w0 _ A m c (P ++ ((U1 ++ U2) ++ ((V1 ++ V2) ++ R)))) := Lib.hid (by
          have := HW1.out
          rw [← hF.out, hCt.eu, hCt.ev] at this
          exact this)
        clear hCt l1 l2 l3 l4 HW1 h1 h2 hls hth hst hlt
        go_upto_region 39 with (fail)
        by_cases h1k : s < k
        · have h1I : (s : Int) < (k : Int) := by omega
          by_cases h2k : k < en
          · have h2I : (k : Int) < (en : Int) := by omega
            have HRo := Lib.hid (rotate_calls w0 _ A m c (P ++ U1) U2 V1 (V2 ++ R) (by have := HA1.out; simpa using this) hm s k en (by have := hAr.out; rw [List.length_append]; omega) (by have := hAr.out; omega) (by have := hAr.out; omega) (by have := hAr.out; omega) (by have := hAr.out; omega) (.func (.func 39) #[] #[]))
            go_upto_region 41 with (go_at_call 74; (with_reducible refine HRo.out.mono ?_); rintro e' w' ⟨rfl, hw⟩; have HW' := Lib.hid hw; clear hw)
            have HA2 : Hid (Sw w0 _ A m c (P ++ (U1 ++ (V1 ++ (U2 ++ (V2 ++ R)))))) := Lib.hid (by have := HW'.out; simpa using this)
            clear HW' HA1
            by_cases h3 : a < s
            · have h3I : (a : Int) < (s : Int) := by omega
              by_cases h4 : s < md
              · have h4I : (s : Int) < (md : Int) := by omega
                have HI1 := Lib.hid (IH.out P U1 V1 (U2 ++ (V2 ++ R)) (by have := hAr.out; omega) ⟨HCt.out.b1, HCt.out.s1, HCt.out.t1, by have := hAr.out; omega, by have := hAr.out; omega⟩ _ a s md HA2.out (by have := hAr.out; omega) (by have := hAr.out; omega) (by have := hAr.out; omega))
                go_upto_region 43 with (go_at_call 72; (with_reducible refine HI1.out.mono ?_); rintro e' w' ⟨rfl, L, hS', hw⟩; have hL := Lib.hid hS'; have HW' := Lib.hid hw; clear hS' hw)
                have HA3 : Hid (Sw w0 _ A m c ((P ++ L) ++ (U2 ++ (V2 ++ R)))) := Lib.hid (by have := HW'.out; simpa using this)
                clear HW' HA2
                by_cases h5 : md < en
                · have h5I : (md : Int) < (en : Int) := by omega
                  by_cases h6 : en < e
                  · have h6I : (en : Int) < (e : Int) := by omega
                    have HI2 := Lib.hid (IH.out (P ++ L) U2 V2 R (by have := hAr.out; omega) ⟨HCt.out.b2, HCt.out.s2, HCt.out.t2, by have := hAr.out; omega, by have := hAr.out; omega⟩ _ md en e HA3.out (by have := hL.out.len; have := hAr.out; simp only [List.length_append] at *; omega) (by have := hAr.out; omega) (by have := hAr.out; omega))
                    go_wp2_with (go_at_call 72; (with_reducible refine HI2.out.mono ?_); rintro e' w' ⟨rfl, S', hS', hw⟩; have HS' := Lib.hid hS'; have HWf := Lib.hid hw; clear hS' hw)
                    go_end0
                    exact ⟨rfl, L ++ S', HCt.out.all L S' hL.out HS'.out, by have := HWf.out; simpa using this⟩
                  · have h6I : ¬ (en : Int) < (e : Int) := by omega
                    have hno : Hid (U2 = [] ∨ V2 = []) := Lib.hid (.inr (list_zero (by have := hAr.out; omega)))
                    go_wp2
                    go_end0
                    exact ⟨rfl, L ++ (U2 ++ V2), HCt.out.all L _ hL.out (mrg_none HCt.out.s2 HCt.out.t2 hno.out), by have := HA3.out; simpa using this⟩
                · have h5I : ¬ (md : Int) < (en : Int) := by omega
                  have hno : Hid (U2 = [] ∨ V2 = []) := Lib.hid (.inl (list_zero (by have := hAr.out; omega)))
                  go_wp2
                  go_end0
                  exact ⟨rfl, L ++ (U2 ++ V2), HCt.out.all L _ hL.out (mrg_none HCt.out.s2 HCt.out.t2 hno.out), by have := HA3.out; simpa using this⟩
              · have h4I : ¬ (s : Int) < (md : Int) := by omega
                have hno1 : Hid (U1 = [] ∨ V1 = []) := Lib.hid (.inr (list_zero (by have := hAr.out; omega)))
                obtain ⟨L, hLe⟩ : ∃ L, Hid (U1 ++ V1 = L) := ⟨_, Lib.hid rfl⟩
                have hL : Hid (Stab (fst sd) (U1 ++ V1) L) := Lib.hid (by rw [← hLe.out]; exact mrg_none HCt.out.s1 HCt.out.t1 hno1.out)
                have HA3 : Hid (Sw w0 _ A m c ((P ++ L) ++ (U2 ++ (V2 ++ R)))) := Lib.hid (by have := HA2.out; rw [← hLe.out]; simpa using this)
                clear HA2
                go_upto_region 43 with (fail)
                by_cases h5 : md < en
                · have h5I : (md : Int) < (en : Int) := by omega
                  by_cases h6 : en < e
                  · have h6I : (en : Int) < (e : Int) := by omega
                    have HI2 := Lib.hid (IH.out (P ++ L) U2 V2 R (by have := hAr.out; omega) ⟨HCt.out.b2, HCt.out.s2, HCt.out.t2, by have := hAr.out; omega, by have := hAr.out; omega⟩ _ md en e HA3.out (by have := hL.out.len; have := hAr.out; simp only [List.length_append] at *; omega) (by have := hAr.out; omega) (by have := hAr.out; omega))
                    go_wp2_with (go_at_call 72; (with_reducible refine HI2.out.mono ?_); rintro e' w' ⟨rfl, S', hS', hw⟩; have HS' := Lib.hid hS'; have HWf := Lib.hid hw; clear hS' hw)
                    go_end0
                    exact ⟨rfl, L ++ S', HCt.out.all L S' hL.out HS'.out, by have := HWf.out; simpa using this⟩
                  · have h6I : ¬ (en : Int) < (e : Int) := by omega
                    have hno : Hid (U2 = [] ∨ V2 = []) := Lib.hid (.inr (list_zero (by have := hAr.out; omega)))
                    go_wp2
                    go_end0
                    exact ⟨rfl, L ++ (U2 ++ V2), HCt.out.all L _ hL.out (mrg_none HCt.out.s2 HCt.out.t2 hno.out), by have := HA3.out; simpa using this⟩
                · have h5I : ¬ (md : Int) < (en : Int) := by omega
                  have hno : Hid (U2 = [] ∨ V2 = []) := Lib.hid (.inl (list_zero (by have := hAr.out; omega)))
                  go_wp2
                  go_end0
                  exact ⟨rfl, L ++ (U2 ++ V2), HCt.out.all L _ hL.out (mrg_none HCt.out.s2 HCt.out.t2 hno.out), by have := HA3.out; simpa using this⟩
            · have h3I : ¬ (a : Int) < (s : Int) := by omega
              have hno1 : Hid (U1 = [] ∨ V1 = []) := Lib.hid (.inl (list_zero (by have := hAr.out; omega)))
              obtain ⟨L, hLe⟩ : ∃ L, Hid (U1 ++ V1 = L) := ⟨_, Lib.hid rfl⟩
              have hL : Hid (Stab (fst sd) (U1 ++ V1) L) := Lib.hid (by rw [← hLe.out]; exact mrg_none HCt.out.s1 HCt.out.t1 hno1.out)
              have HA3 : Hid (Sw w0 _ A m c ((P ++ L) ++ (U2 ++ (V2 ++ R)))) := Lib.hid (by have := HA2.out; rw [← hLe.out]; simpa using this)
              clear HA2
              go_upto_region 43 with (fail)
              by_cases h5 : md < en
              · have h5I : (md : Int) < (en : Int) := by omega
                by_cases h6 : en < e
                · have h6I : (en : Int) < (e : Int) := by omega
                  have HI2 := Lib.hid (IH.out (P ++ L) U2 V2 R (by have := hAr.out; omega) ⟨HCt.out.b2, HCt.out.s2, HCt.out.t2, by have := hAr.out; omega, by have := hAr.out; omega⟩ _ md en e HA3.out (by have := hL.out.len; have := hAr.out; simp only [List.length_append] at *; omega) (by have := hAr.out; omega) (by have := hAr.out; omega))
                  go_wp2_with (go_at_call 72; (with_reducible refine HI2.out.mono ?_); rintro e' w' ⟨rfl, S', hS', hw⟩; have HS' := Lib.hid hS'; have HWf := Lib.hid hw; clear hS' hw)
                  go_end0
                  exact ⟨rfl, L ++ S', HCt.out.all L S' hL.out HS'.out, by have := HWf.out; simpa using this⟩
                · have h6I : ¬ (en : Int) < (e : Int) := by omega
                  have hno : Hid (U2 = [] ∨ V2 = []) := Lib.hid (.inr (list_zero (by have := hAr.out; omega)))
                  go_wp2
                  go_end0
                  exact ⟨rfl, L ++ (U2 ++ V2), HCt.out.all L _ hL.out (mrg_none HCt.out.s2 HCt.out.t2 hno.out), by have := HA3.out; simpa using this⟩
              · have h5I : ¬ (md : Int) < (en : Int) := by omega
                have hno : Hid (U2 = [] ∨ V2 = []) := Lib.hid (.inl (list_zero (by have := hAr.out; omega)))
                go_wp2
                go_end0
                exact ⟨rfl, L ++ (U2 ++ V2), HCt.out.all L _ hL.out (mrg_none HCt.out.s2 HCt.out.t2 hno.out), by have := HA3.out; simpa using this⟩
          · have h2I : ¬ (k : Int) < (en : Int) := by omega
            have hno0 : Hid (U2 = [] ∨ V1 = []) := Lib.hid (.inr (list_zero (by have := hAr.out; omega)))
            have HA2 : Hid (Sw w0 _ A m c (P ++ (U1 ++ (V1 ++ (U2 ++ (V2 ++ R)))))) := Lib.hid (by
              have := HA1.out
              rcases hno0.out with e0 | e0 <;> rw [e0] at this ⊢ <;> simpa using this)
            clear HA1
            go_upto_region 41 with (fail)
            by_cases h3 : a < s
            · have h3I : (a : Int) < (s : Int) := by omega
              by_cases h4 : s < md
              · have h4I : (s : Int) < (md : Int) := by omega
                have HI1 := Lib.hid (IH.out P U1 V1 (U2 ++ (V2 ++ R)) (by have := hAr.out; omega) ⟨HCt.out.b1, HCt.out.s1, HCt.out.t1, by have := hAr.out; omega, by have := hAr.out; omega⟩ _ a s md HA2.out (by have := hAr.out; omega) (by have := hAr.out; omega) (by have := hAr.out; omega))
                go_upto_region 43 with (go_at_call 72; (with_reducible refine HI1.out.mono ?_); rintro e' w' ⟨rfl, L, hS', hw⟩; have hL := Lib.hid hS'; have HW' := Lib.hid hw; clear hS' hw)
                have HA3 : Hid (Sw w0 _ A m c ((P ++ L) ++ (U2 ++ (V2 ++ R)))) := Lib.hid (by have := HW'.out; simpa using this)
                clear HW' HA2
                by_cases h5 : md < en
                · have h5I : (md : Int) < (en : Int) := by omega
                  by_cases h6 : en < e
                  · have h6I : (en : Int) < (e : Int) := by omega
                    have HI2 := Lib.hid (IH.out (P ++ L) U2 V2 R (by have := hAr.out; omega) ⟨HCt.out.b2, HCt.out.s2, HCt.out.t2, by have := hAr.out; omega, by have := hAr.out; omega⟩ _ md en e HA3.out (by have := hL.out.len; have := hAr.out; simp only [List.length_append] at *; omega) (by have := hAr.out; omega) (by have := hAr.out; omega))
                    go_wp2_with (go_at_call 72; (with_reducible refine HI2.out.mono ?_); rintro e' w' ⟨rfl, S', hS', hw⟩; have HS' := Lib.hid hS'; have HWf := Lib.hid hw; clear hS' hw)
                    go_end0
                    exact ⟨rfl, L ++ S', HCt.out.all L S' hL.out HS'.out, by have := HWf.out; simpa using this⟩
                  · have h6I : ¬ (en : Int) < (e : Int) := by omega
                    have hno : Hid (U2 = [] ∨ V2 = []) := Lib.hid (.inr (list_zero (by have := hAr.out; omega)))
                    go_wp2
                    go_end0
                    exact ⟨rfl, L ++ (U2 ++ V2), HCt.out.all L _ hL.out (mrg_none HCt.out.s2 HCt.out.t2 hno.out), by have := HA3.out; simpa using this⟩
                · have h5I : ¬ (md : Int) < (en : Int) := by omega
                  have hno : Hid (U2 = [] ∨ V2 = []) := Lib.hid (.inl (list_zero (by have := hAr.out; omega)))
                  go_wp2
                  go_end0
                  exact ⟨rfl, L ++ (U2 ++ V2), HCt.out.all L _ hL.out (mrg_none HCt.out.s2 HCt.out.t2 hno.out), by have := HA3.out; simpa using this⟩
              · have h4I : ¬ (s : Int) < (md : Int) := by omega
                have hno1 : Hid (U1 = [] ∨ V1 = []) := Lib.hid (.inr (list_zero (by have := hAr.out; omega)))
                obtain ⟨L, hLe⟩ : ∃ L, Hid (U1 ++ V1 = L) := ⟨_, Lib.hid rfl⟩
                have hL : Hid (Stab (fst sd) (U1 ++ V1) L) := Lib.hid (by rw [← hLe.out]; exact mrg_none HCt.out.s1 HCt.out.t1 hno1.out)
                have HA3 : Hid (Sw w0 _ A m c ((P ++ L) ++ (U2 ++ (V2 ++ R)))) := Lib.hid (by have := HA2.out; rw [← hLe.out]; simpa using this)
                clear HA2
                go_upto_region 43 with (fail)
                by_cases h5 : md < en
                · have h5I : (md : Int) < (en : Int) := by omega
                  by_cases h6 : en < e
                  · have h6I : (en : Int) < (e : Int) := by omega
                    have HI2 := Lib.hid (IH.out (P ++ L) U2 V2 R (by have := hAr.out; omega) ⟨HCt.out.b2, HCt.out.s2, HCt.out.t2, by have := hAr.out; omega, by have := hAr.out; omega⟩ _ md en e HA3.out (by have := hL.out.len; have := hAr.out; simp only [List.length_append] at *; omega) (by have := hAr.out; omega) (by have := hAr.out; omega))
                    go_wp2_with (go_at_call 72; (with_reducible refine HI2.out.mono ?_); rintro e' w' ⟨rfl, S', hS', hw⟩; have HS' := Lib.hid hS'; have HWf := Lib.hid hw; clear hS' hw)
                    go_end0
                    exact ⟨rfl, L ++ S', HCt.out.all L S' hL.out HS'.out, by have := HWf.out; simpa using this⟩
                  · have h6I : ¬ (en : Int) < (e : Int) := by omega
                    have hno : Hid (U2 = [] ∨ V2 = []) := Lib.hid (.inr (list_zero (by have := hAr.out; omega)))
                    go_wp2
                    go_end0
                    exact ⟨rfl, L ++ (U2 ++ V2), HCt.out.all L _ hL.out (mrg_none HCt.out.s2 HCt.out.t2 hno.out), by have := HA3.out; simpa using this⟩
                · have h5I : ¬ (md : Int) < (en : Int) := by omega
                  have hno : Hid (U2 = [] ∨ V2 = []) := Lib.hid (.inl (list_zero (by have := hAr.out; omega)))
                  go_wp2
                  go_end0
                  exact ⟨rfl, L ++ (U2 ++ V2), HCt.out.all L _ hL.out (mrg_none HCt.out.s2 HCt.out.t2 hno.out), by have := HA3.out; simpa using this⟩
            · have h3I : ¬ (a : Int) < (s : Int) := by omega
              have hno1 : Hid (U1 = [] ∨ V1 = []) := Lib.hid (.inl (list_zero (by have := hAr.out; omega)))
              obtain ⟨L, hLe⟩ : ∃ L, Hid (U1 ++ V1 = L) := ⟨_, Lib.hid rfl⟩
              have hL : Hid (Stab (fst sd) (U1 ++ V1) L) := Lib.hid (by rw [← hLe.out]; exact mrg_none HCt.out.s1 HCt.out.t1 hno1.out)
              have HA3 : Hid (Sw w0 _ A m c ((P ++ L) ++ (U2 ++ (V2 ++ R)))) := Lib.hid (by have := HA2.out; rw [← hLe.out]; simpa using this)
              clear HA2
              go_upto_region 43 with (fail)
              by_cases h5 : md < en
              · have h5I : (md : Int) < (en : Int) := by omega
                by_cases h6 : en < e
                · have h6I : (en : Int) < (e : Int) := by omega
                  have HI2 := Lib.hid (IH.out (P ++ L) U2 V2 R (by have := hAr.out; omega) ⟨HCt.out.b2, HCt.out.s2, HCt.out.t2, by have := hAr.out; omega, by have := hAr.out; omega⟩ _ md en e HA3.out (by have := hL.out.len; have := hAr.out; simp only [List.length_append] at *; omega) (by have := hAr.out; omega) (by have := hAr.out; omega))
                  go_wp2_with (go_at_call 72; (with_reducible refine HI2.out.mono ?_); rintro e' w' ⟨rfl, S', hS', hw⟩; have HS' := Lib.hid hS'; have HWf := Lib.hid hw; clear hS' hw)
                  go_end0
                  exact ⟨rfl, L ++ S', HCt.out.all L S' hL.out HS'.out, by have := HWf.out; simpa using this⟩
                · have h6I : ¬ (en : Int) < (e : Int) := by omega
                  have hno : Hid (U2 = [] ∨ V2 = []) := Lib.hid (.inr (list_zero (by have := hAr.out; omega)))
                  go_wp2
                  go_end0
                  exact ⟨rfl, L ++ (U2 ++ V2), HCt.out.all L _ hL.out (mrg_none HCt.out.s2 HCt.out.t2 hno.out), by have := HA3.out; simpa using this⟩
              · have h5I : ¬ (md : Int) < (en : Int) := by omega
                have hno : Hid (U2 = [] ∨ V2 = []) := Lib.hid (.inl (list_zero (by have := hAr.out; omega)))
                go_wp2
                go_end0
                exact ⟨rfl, L ++ (U2 ++ V2), HCt.out.all L _ hL.out (mrg_none HCt.out.s2 HCt.out.t2 hno.out), by have := HA3.out; simpa using this⟩
        · have h1I : ¬ (s : Int) < (k : Int) := by omega
          have hno0 : Hid (U2 = [] ∨ V1 = []) := Lib.hid (.inl (list_zero (by have := hAr.out; omega)))
          have HA2 : Hid (Sw w0 _ A m c (P ++ (U1 ++ (V1 ++ (U2 ++ (V2 ++ R)))))) := Lib.hid (by
            have := HA1.out
            rcases hno0.out with e0 | e0 <;> rw [e0] at this ⊢ <;> simpa using this)
          clear HA1
          go_upto_region 41 with (fail)
          by_cases h3 : a < s
          · have h3I : (a : Int) < (s : Int) := by omega
            by_cases h4 : s < md
            · have h4I : (s : Int) < (md : Int) := by omega
              have HI1 := Lib.hid (IH.out P U1 V1 (U2 ++ (V2 ++ R)) (by have := hAr.out; omega) ⟨HCt.out.b1, HCt.out.s1, HCt.out.t1, by have := hAr.out; omega, by have := hAr.out; omega⟩ _ a s md HA2.out (by have := hAr.out; omega) (by have := hAr.out; omega) (by have := hAr.out; omega))
              go_upto_region 43 with (go_at_call 72; (with_reducible refine HI1.out.mono ?_); rintro e' w' ⟨rfl, L, hS', hw⟩; have hL := Lib.hid hS'; have HW' := Lib.hid hw; clear hS' hw)
              have HA3 : Hid (Sw w0 _ A m c ((P ++ L) ++ (U2 ++ (V2 ++ R)))) := Lib.hid (by have := HW'.out; simpa using this)
              clear HW' HA2
              by_cases h5 : md < en
              · have h5I : (md : Int) < (en : Int) := by omega
                by_cases h6 : en < e
                · have h6I : (en : Int) < (e : Int) := by omega
                  have HI2 := Lib.hid (IH.out (P ++ L) U2 V2 R (by have := hAr.out; omega) ⟨HCt.out.b2, HCt.out.s2, HCt.out.t2, by have := hAr.out; omega, by have := hAr.out; omega⟩ _ md en e HA3.out (by have := hL.out.len; have := hAr.out; simp only [List.length_append] at *; omega) (by have := hAr.out; omega) (by have := hAr.out; omega))
                  go_wp2_with (go_at_call 72; (with_reducible refine HI2.out.mono ?_); rintro e' w' ⟨rfl, S', hS', hw⟩; have HS' := Lib.hid hS'; have HWf := Lib.hid hw; clear hS' hw)
                  go_end0
                  exact ⟨rfl, L ++ S', HCt.out.all L S' hL.out HS'.out, by have := HWf.out; simpa using this⟩
                · have h6I : ¬ (en : Int) < (e : Int) := by omega
                  have hno : Hid (U2 = [] ∨ V2 = []) := Lib.hid (.inr (list_zero (by have := hAr.out; omega)))
                  go_wp2
                  go_end0
                  exact ⟨rfl, L ++ (U2 ++ V2), HCt.out.all L _ hL.out (mrg_none HCt.out.s2 HCt.out.t2 hno.out), by have := HA3.out; simpa using this⟩
              · have h5I : ¬ (md : Int) < (en : Int) := by omega
                have hno : Hid (U2 = [] ∨ V2 = []) := Lib.hid (.inl (list_zero (by have := hAr.out; omega)))
                go_wp2
                go_end0
                exact ⟨rfl, L ++ (U2 ++ V2), HCt.out.all L _ hL.out (mrg_none HCt.out.s2 HCt.out.t2 hno.out), by have := HA3.out; simpa using this⟩
            · have h4I : ¬ (s : Int) < (md : Int) := by omega
              have hno1 : Hid (U1 = [] ∨ V1 = []) := Lib.hid (.inr (list_zero (by have := hAr.out; omega)))
              obtain ⟨L, hLe⟩ : ∃ L, Hid (U1 ++ V1 = L) := ⟨_, Lib.hid rfl⟩
              have hL : Hid (Stab (fst sd) (U1 ++ V1) L) := Lib.hid (by rw [← hLe.out]; exact mrg_none HCt.out.s1 HCt.out.t1 hno1.out)
              have HA3 : Hid (Sw w0 _ A m c ((P ++ L) ++ (U2 ++ (V2 ++ R)))) := Lib.hid (by have := HA2.out; rw [← hLe.out]; simpa using this)
              clear HA2
              go_upto_region 43 with (fail)
              by_cases h5 : md < en
              · have h5I : (md : Int) < (en : Int) := by omega
                by_cases h6 : en < e
                · have h6I : (en : Int) < (e : Int) := by omega
                  have HI2 := Lib.hid (IH.out (P ++ L) U2 V2 R (by have := hAr.out; omega) ⟨HCt.out.b2, HCt.out.s2, HCt.out.t2, by have := hAr.out; omega, by have := hAr.out; omega⟩ _ md en e HA3.out (by have := hL.out.len; have := hAr.out; simp only [List.length_append] at *; omega) (by have := hAr.out; omega) (by have := hAr.out; omega))
                  go_wp2_with (go_at_call 72; (with_reducible refine HI2.out.mono ?_); rintro e' w' ⟨rfl, S', hS', hw⟩; have HS' := Lib.hid hS'; have HWf := Lib.hid hw; clear hS' hw)
                  go_end0
                  exact ⟨rfl, L ++ S', HCt.out.all L S' hL.out HS'.out, by have := HWf.out; simpa using this⟩
                · have h6I : ¬ (en : Int) < (e : Int) := by omega
                  have hno : Hid (U2 = [] ∨ V2 = []) := Lib.hid (.inr (list_zero (by have := hAr.out; omega)))
                  go_wp2
                  go_end0
                  exact ⟨rfl, L ++ (U2 ++ V2), HCt.out.all L _ hL.out (mrg_none HCt.out.s2 HCt.out.t2 hno.out), by have := HA3.out; simpa using this⟩
              · have h5I : ¬ (md : Int) < (en : Int) := by omega
                have hno : Hid (U2 = [] ∨ V2 = []) := Lib.hid (.inl (list_zero (by have := hAr.out; omega)))
                go_wp2
                go_end0
                exact ⟨rfl, L ++ (U2 ++ V2), HCt.out.all L _ hL.out (mrg_none HCt.out.s2 HCt.out.t2 hno.out), by have := HA3.out; simpa using this⟩
          · have h3I : ¬ (a : Int) < (s : Int) := by omega
            have hno1 : Hid (U1 = [] ∨ V1 = []) := Lib.hid (.inl (list_zero (by have := hAr.out; omega)))
            obtain ⟨L, hLe⟩ : ∃ L, Hid (U1 ++ V1 = L) := ⟨_, Lib.hid rfl⟩
            have hL : Hid (Stab (fst sd) (U1 ++ V1) L) := Lib.hid (by rw [← hLe.out]; exact mrg_none HCt.out.s1 HCt.out.t1 hno1.out)
            have HA3 : Hid (Sw w0 _ A m c ((P ++ L) ++ (U2 ++ (V2 ++ R)))) := Lib.hid (by have := HA2.out; rw [← hLe.out]; simpa using this)
            clear HA2
            go_upto_region 43 with (fail)
            by_cases h5 : md < en
            · have h5I : (md : Int) < (en : Int) := by omega
              by_cases h6 : en < e
              · have h6I : (en : Int) < (e : Int) := by omega
                have HI2 := Lib.hid (IH.out (P ++ L) U2 V2 R (by have := hAr.out; omega) ⟨HCt.out.b2, HCt.out.s2, HCt.out.t2, by have := hAr.out; omega, by have := hAr.out; omega⟩ _ md en e HA3.out (by have := hL.out.len; have := hAr.out; simp only [List.length_append] at *; omega) (by have := hAr.out; omega) (by have := hAr.out; omega))
                go_wp2_with (go_at_call 72; (with_reducible refine HI2.out.mono ?_); rintro e' w' ⟨rfl, S', hS', hw⟩; have HS' := Lib.hid hS'; have HWf := Lib.hid hw; clear hS' hw)
                go_end0
                exact ⟨rfl, L ++ S', HCt.out.all L S' hL.out HS'.out, by have := HWf.out; simpa using this⟩
              · have h6I : ¬ (en : Int) < (e : Int) := by omega
                have hno : Hid (U2 = [] ∨ V2 = []) := Lib.hid (.inr (list_zero (by have := hAr.out; omega)))
                go_wp2
                go_end0
                exact ⟨rfl, L ++ (U2 ++ V2), HCt.out.all L _ hL.out (mrg_none HCt.out.s2 HCt.out.t2 hno.out), by have := HA3.out; simpa using this⟩
            · have h5I : ¬ (md : Int) < (en : Int) := by omega
              have hno : Hid (U2 = [] ∨ V2 = []) := Lib.hid (.inl (list_zero (by have := hAr.out; omega)))
              go_wp2
              go_end0
              exact ⟨rfl, L ++ (U2 ++ V2), HCt.out.all L _ hL.out (mrg_none HCt.out.s2 HCt.out.t2 hno.out), by have := HA3.out; simpa using this⟩
  · have hkI : ¬ (md : Int) < (k : Int) := by omega
    have HLH : Hid ((a + e = md + k ∧ k = md ∧ md < k) ∨ (a = a ∧ k = k ∧ k ≤ md)) := Lib.hid (.inr (by omega))
    obtain ⟨q2, q3, q4⟩ := w_mid (i := a) (j := e) (x := md) hmd.out (by have := hb.out; omega)
    go_enter Try.func72, Try.ntmps72
    go_upto_region 25 with (fail)
    rw [q4]
    clear q2 q3 q4
    go_upto_region 33 with (fail)
    go_loopg [20, 21, 23] (k - a) (fun gk s20 s21 s23 wr => ∃ (s t : Nat), gk = t - s ∧ a ≤ s ∧ s ≤ t ∧ t ≤ k ∧ s20 = .int .i64 (s : Int) ∧ s21 = .int .i64 (t : Int) ∧ Hid (s = a ∨ fst sd (V.getD (md - s) ord0) (U.getD (s - 1 - a) ord0) = false) ∧ Hid (t = k ∨ fst sd (V.getD (md - 1 - t) ord0) (U.getD (t - a) ord0) = true) ∧ Hid (Sw w0 wr A m c F))
    case atStart => exact ⟨a, k, rfl, Nat.le_refl _, by have := HLH.out; have := hb.out; omega, Nat.le_refl _, rfl, rfl, Lib.hid (.inl rfl), Lib.hid (.inl rfl), H⟩
    case round =>
      clear H
      obtain ⟨s, t, rfl, hls, hst, hth, rfl, rfl, h1, h2, HW1⟩ := hrel
      by_cases hlt : s < t
      · obtain ⟨y, hz⟩ : ∃ y, Hid ((s + t) / 2 = y) := ⟨_, Lib.hid rfl⟩
        have hz1 : s ≤ y ∧ y < t := by have := hz.out; omega
        have hrng : Hid (a ≤ y ∧ y - a < u ∧ md - 1 - y < v ∧ k + (md - 1 - y) + y = pn ∧ y < md) := Lib.hid (by have := HLH.out; have := hb.out; omega)
        have hijI : (s : Int) < (t : Int) := by omega
        obtain ⟨x, hxe⟩ : ∃ x, Hid (k + (md - 1 - y) = x) := ⟨_, Lib.hid rfl⟩
        have hx : x < m := by have := hxe.out; have := hrng.out; have := hb.out; omega
        have hy : y < m := by have := hrng.out; have := hb.out; omega
        obtain ⟨y', hy'⟩ : ∃ y', Hid (y + 1 = y') := ⟨_, Lib.hid rfl⟩
        have q5 := w_one hy'.out (by have := hy'.out; omega)
        have q6 := w_sub (a := pn) (b := y) (c := x) (by have := hrng.out; have := hxe.out; omega) (by have := hb.out; omega)
        have HM1 := Lib.hid (show t - (y + 1) < t - s by omega)
        have HM2 := Lib.hid (show y - s < t - s by omega)
        obtain ⟨p, hpv⟩ : ∃ p, Hid (V.getD (md - 1 - y) ord0 = p) := ⟨_, Lib.hid rfl⟩
        obtain ⟨q, hqv⟩ : ∃ q, Hid (U.getD (y - a) ord0 = q) := ⟨_, Lib.hid rfl⟩
        have HG : Hid (F.getD x ord0 = p ∧ F.getD y ord0 = q) := Lib.hid ⟨by rw [← hxe.out, (HVv.out _ (by have := hrng.out; omega)).1, hpv.out], by
          have := HUu.out (y - a) (by have := hrng.out; omega)
          rw [show a + (y - a) = y from by have := hrng.out; omega] at this
          rw [this, hqv.out]⟩
        have hpb : Hid (p.buys = sd) := Lib.hid (by rw [← hpv.out]; exact (HVv.out _ (by have := hrng.out; omega)).2)
        obtain ⟨q2, q3, q4⟩ := w_mid (i := s) (j := t) (x := y) hz.out (by have := hb.out; have := HLH.out; omega)
        go_upto_region 35 with (fail)
        rw [q4]
        clear q2 q3 q4
        obtain ⟨b, o, rfl⟩ := HW1.out.lies (by omega)
        obtain ⟨c0, c1, c2, c3, c4, c5⟩ := HW1.out.six hx
        obtain ⟨d0, d1, d2, d3, d4, d5⟩ := HW1.out.six hy
        rw [HG.out.1] at c0 c1 c2 c3 c4 c5
        rw [HG.out.2] at d0 d1 d2 d3 d4 d5
        have x1 : (0 : Int) ≤ (x : Int) := by omega
        have x2 : (x : Int) < (m : Int) := by omega
        have y1 : (0 : Int) ≤ (y : Int) := by omega
        have y2 : (y : Int) < (m : Int) := by omega
        have hAc : Hid (acmp p q < 0 ↔ fst sd p q = true) := Lib.hid (by
          have := acmp_fst p q
          rwa [hpb.out] at this)
        obtain ⟨r, hr⟩ : ∃ r, Hid (acmp p q = r) := ⟨_, Lib.hid rfl⟩
        rw [hr.out] at hAc
        have HS0 : Hid ((wr.drew.cell? ⟨b, o + x * 6, none⟩ = some (.int .i64 p.id) ∧ wr.drew.cell? ⟨b, o + x * 6 + 1, none⟩ = some (.int .i64 p.owner) ∧ wr.drew.cell? ⟨b, o + x * 6 + 2, none⟩ = some (.int .i64 p.price) ∧ wr.drew.cell? ⟨b, o + x * 6 + 3, none⟩ = some (.int .i64 p.amount) ∧ wr.drew.cell? ⟨b, o + x * 6 + 4, none⟩ = some (.int .i64 p.place) ∧ wr.drew.cell? ⟨b, o + x * 6 + 5, none⟩ = some (.bool p.buys)) ∧ (wr.drew.cell? ⟨b, o + y * 6, none⟩ = some (.int .i64 q.id) ∧ wr.drew.cell? ⟨b, o + y * 6 + 1, none⟩ = some (.int .i64 q.owner) ∧ wr.drew.cell? ⟨b, o + y * 6 + 2, none⟩ = some (.int .i64 q.price) ∧ wr.drew.cell? ⟨b, o + y * 6 + 3, none⟩ = some (.int .i64 q.amount) ∧ wr.drew.cell? ⟨b, o + y * 6 + 4, none⟩ = some (.int .i64 q.place) ∧ wr.drew.cell? ⟨b, o + y * 6 + 5, none⟩ = some (.bool q.buys)) ∧ Hid (Below wr.heap.size wr wr.drew)) := Lib.hid ⟨⟨c0, c1, c2, c3, c4, c5⟩, ⟨d0, d1, d2, d3, d4, d5⟩, Lib.hid (Below.refl _ _).drew⟩
        have HK : Hid (∀ wx, ((wx.cell? ⟨b, o + x * 6, none⟩ = some (.int .i64 p.id) ∧ wx.cell? ⟨b, o + x * 6 + 1, none⟩ = some (.int .i64 p.owner) ∧ wx.cell? ⟨b, o + x * 6 + 2, none⟩ = some (.int .i64 p.price) ∧ wx.cell? ⟨b, o + x * 6 + 3, none⟩ = some (.int .i64 p.amount) ∧ wx.cell? ⟨b, o + x * 6 + 4, none⟩ = some (.int .i64 p.place) ∧ wx.cell? ⟨b, o + x * 6 + 5, none⟩ = some (.bool p.buys)) ∧ (wx.cell? ⟨b, o + y * 6, none⟩ = some (.int .i64 q.id) ∧ wx.cell? ⟨b, o + y * 6 + 1, none⟩ = some (.int .i64 q.owner) ∧ wx.cell? ⟨b, o + y * 6 + 2, none⟩ = some (.int .i64 q.price) ∧ wx.cell? ⟨b, o + y * 6 + 3, none⟩ = some (.int .i64 q.amount) ∧ wx.cell? ⟨b, o + y * 6 + 4, none⟩ = some (.int .i64 q.place) ∧ wx.cell? ⟨b, o + y * 6 + 5, none⟩ = some (.bool q.buys)) ∧ Hid (Below wr.heap.size wr wx)) → Calls Try.prog 39 #[.agg #[.int .i64 p.id, .int .i64 p.owner, .int .i64 p.price, .int .i64 p.amount, .int .i64 p.place, .bool p.buys], .agg #[.int .i64 q.id, .int .i64 q.owner, .int .i64 q.price, .int .i64 q.amount, .int .i64 q.place, .bool q.buys]] wx fun e w' => e = .returned (.int .i64 r) ∧ ((w'.cell? ⟨b, o + x * 6, none⟩ = some (.int .i64 p.id) ∧ w'.cell? ⟨b, o + x * 6 + 1, none⟩ = some (.int .i64 p.owner) ∧ w'.cell? ⟨b, o + x * 6 + 2, none⟩ = some (.int .i64 p.price) ∧ w'.cell? ⟨b, o + x * 6 + 3, none⟩ = some (.int .i64 p.amount) ∧ w'.cell? ⟨b, o + x * 6 + 4, none⟩ = some (.int .i64 p.place) ∧ w'.cell? ⟨b, o + x * 6 + 5, none⟩ = some (.bool p.buys)) ∧ (w'.cell? ⟨b, o + y * 6, none⟩ = some (.int .i64 q.id) ∧ w'.cell? ⟨b, o + y * 6 + 1, none⟩ = some (.int .i64 q.owner) ∧ w'.cell? ⟨b, o + y * 6 + 2, none⟩ = some (.int .i64 q.price) ∧ w'.cell? ⟨b, o + y * 6 + 3, none⟩ = some (.int .i64 q.amount) ∧ w'.cell? ⟨b, o + y * 6 + 4, none⟩ = some (.int .i64 q.place) ∧ w'.cell? ⟨b, o + y * 6 + 5, none⟩ = some (.bool q.buys)) ∧ Hid (Below wr.heap.size wr w'))) := Lib.hid fun wx hs => (ahead_calls wx p q).mono (by
          rintro e w' ⟨rfl, hb⟩
          have hbw := below_next hs.2.2.out hb
          refine ⟨by rw [hr.out], ?_, ?_, Lib.hid hbw⟩
          · have := (HW1.out.below hbw).six hx
            rwa [HG.out.1] at this
          · have := (HW1.out.below hbw).six hy
            rwa [HG.out.2] at this)
        clear c0 c1 c2 c3 c4 c5 d0 d1 d2 d3 d4 d5
        go_wp2_with (fail)
        go_region_held3 (fun wx => ((wx.cell? ⟨b, o + x * 6, none⟩ = some (.int .i64 p.id) ∧ wx.cell? ⟨b, o + x * 6 + 1, none⟩ = some (.int .i64 p.owner) ∧ wx.cell? ⟨b, o + x * 6 + 2, none⟩ = some (.int .i64 p.price) ∧ wx.cell? ⟨b, o + x * 6 + 3, none⟩ = some (.int .i64 p.amount) ∧ wx.cell? ⟨b, o + x * 6 + 4, none⟩ = some (.int .i64 p.place) ∧ wx.cell? ⟨b, o + x * 6 + 5, none⟩ = some (.bool p.buys)) ∧ (wx.cell? ⟨b, o + y * 6, none⟩ = some (.int .i64 q.id) ∧ wx.cell? ⟨b, o + y * 6 + 1, none⟩ = some (.int .i64 q.owner) ∧ wx.cell? ⟨b, o + y * 6 + 2, none⟩ = some (.int .i64 q.price) ∧ wx.cell? ⟨b, o + y * 6 + 3, none⟩ = some (.int .i64 q.amount) ∧ wx.cell? ⟨b, o + y * 6 + 4, none⟩ = some (.int .i64 q.place) ∧ wx.cell? ⟨b, o + y * 6 + 5, none⟩ = some (.bool q.buys)) ∧ Hid (Below wr.heap.size wr wx)))
          (first | assumption | exact HS0.out)
          ((go_at_call 39; (with_reducible refine (HK.out _ (by assumption)).mono ?_); rintro e wn ⟨rfl, hsn⟩))
        obtain ⟨_, _, hbn⟩ := hsn
        have HWn := Lib.hid (HW1.out.below hbn.out)
        clear HS0 HK HW1 HG
        by_cases hneg : r < 0
        · have h2n : Hid (y = k ∨ fst sd (V.getD (md - 1 - y) ord0) (U.getD (y - a) ord0) = true) := Lib.hid (.inr (by
            rw [hpv.out, hqv.out]; exact hAc.out.1 hneg))
          have hdb : (!decide (r < 0)) = false := by simp [hneg]
          rw [hdb]
          clear hdb
          go_wp2
          go_roundg (y - s)
          case measure => exact HM2.out
          case rel => exact ⟨s, y, rfl, hls, by omega, by omega, rfl, by first | rfl | go_num, h1, h2n, HWn⟩
        · have h1n : Hid (y' = a ∨ fst sd (V.getD (md - y') ord0) (U.getD (y' - 1 - a) ord0) = false) := Lib.hid (.inr (by
            rw [← hy'.out, Nat.add_sub_cancel, show md - (y + 1) = md - 1 - y from by omega, hpv.out, hqv.out]
            cases hq : fst sd p q with
            | false => rfl
            | true => exact absurd (hAc.out.2 hq) hneg))
          have hdb : (!decide (r < 0)) = true := by rw [decide_eq_false hneg]; rfl
          rw [hdb]
          clear hdb
          have hy2 := hy'.out
          go_wp2
          go_roundg (t - (y + 1))
          case measure => exact HM1.out
          case rel => exact ⟨y', t, by rw [hy'.out], by have := hy'.out; omega, by have := hy'.out; omega, hth, rfl, rfl, h1n, h2, HWn⟩
      · obtain rfl : s = t := by omega
        have hijI : ¬ (s : Int) < (s : Int) := by omega
        obtain ⟨U1, U2, V1, V2, hCt, l1, l2, l3, l4⟩ := sym_cut (s := s - a) (t := md - s) Hp.out (by have := HLH.out; have := hb.out; have := hu.out; omega) (by have := HLH.out; have := hb.out; have := hv.out; omega)
          (by
            have := HLH.out
            have := hb.out
            rcases h2.out with h | h
            · have := hu.out
              omega
            · exact .inr (.inr (by rw [show md - s - 1 = md - 1 - s from by omega]; exact h)))
          (by
            have := HLH.out
            have := hb.out
            rcases h1.out with h | h
            · have := hv.out
              omega
            · exact .inr (.inr (by rw [show s - a - 1 = s - 1 - a from by omega]; exact h)))
        obtain ⟨en, hen⟩ : ∃ en, Hid (md + k - s = en) := ⟨_, Lib.hid rfl⟩
        have hAr : Hid (P.length = a ∧ a + U1.length = s ∧ s + U2.length = k ∧ s + V1.length = md ∧ md + U2.length = en ∧ en + V2.length = e ∧ k + V1.length = en ∧ s ≤ md ∧ md < e ∧ a < md ∧ e - a ≤ N + 1) := Lib.hid (by have := HLH.out; have := hb.out; have := hu.out; have := hv.out; have := hen.out; omega)
        have HCt := Lib.hid hCt
        have q7 := w_sub (a := n) (b := s) (c := en) (by have := hb.out; have := hen.out; have := HLH.out; omega) (by have := hb.out; omega)
        have HA1 : Hid (Sw w0 _ A m c (P ++ ((U1 ++ U2) ++ ((V1 ++ V2) ++ R)))) := Lib.hid (by
          have := HW1.out
          rw [← hF.out, hCt.eu, hCt.ev] at this
          exact this)
        clear hCt l1 l2 l3 l4 HW1 h1 h2 hls hth hst hlt
        go_upto_region 39 with (fail)
        by_cases h1k : s < k
        · have h1I : (s : Int) < (k : Int) := by omega
          by_cases h2k : k < en
          · have h2I : (k : Int) < (en : Int) := by omega
            have HRo := Lib.hid (rotate_calls w0 _ A m c (P ++ U1) U2 V1 (V2 ++ R) (by have := HA1.out; simpa using this) hm s k en (by have := hAr.out; rw [List.length_append]; omega) (by have := hAr.out; omega) (by have := hAr.out; omega) (by have := hAr.out; omega) (by have := hAr.out; omega) (.func (.func 39) #[] #[]))
            go_upto_region 41 with (go_at_call 74; (with_reducible refine HRo.out.mono ?_); rintro e' w' ⟨rfl, hw⟩; have HW' := Lib.hid hw; clear hw)
            have HA2 : Hid (Sw w0 _ A m c (P ++ (U1 ++ (V1 ++ (U2 ++ (V2 ++ R)))))) := Lib.hid (by have := HW'.out; simpa using this)
            clear HW' HA1
            by_cases h3 : a < s
            · have h3I : (a : Int) < (s : Int) := by omega
              by_cases h4 : s < md
              · have h4I : (s : Int) < (md : Int) := by omega
                have HI1 := Lib.hid (IH.out P U1 V1 (U2 ++ (V2 ++ R)) (by have := hAr.out; omega) ⟨HCt.out.b1, HCt.out.s1, HCt.out.t1, by have := hAr.out; omega, by have := hAr.out; omega⟩ _ a s md HA2.out (by have := hAr.out; omega) (by have := hAr.out; omega) (by have := hAr.out; omega))
                go_upto_region 43 with (go_at_call 72; (with_reducible refine HI1.out.mono ?_); rintro e' w' ⟨rfl, L, hS', hw⟩; have hL := Lib.hid hS'; have HW' := Lib.hid hw; clear hS' hw)
                have HA3 : Hid (Sw w0 _ A m c ((P ++ L) ++ (U2 ++ (V2 ++ R)))) := Lib.hid (by have := HW'.out; simpa using this)
                clear HW' HA2
                by_cases h5 : md < en
                · have h5I : (md : Int) < (en : Int) := by omega
                  by_cases h6 : en < e
                  · have h6I : (en : Int) < (e : Int) := by omega
                    have HI2 := Lib.hid (IH.out (P ++ L) U2 V2 R (by have := hAr.out; omega) ⟨HCt.out.b2, HCt.out.s2, HCt.out.t2, by have := hAr.out; omega, by have := hAr.out; omega⟩ _ md en e HA3.out (by have := hL.out.len; have := hAr.out; simp only [List.length_append] at *; omega) (by have := hAr.out; omega) (by have := hAr.out; omega))
                    go_wp2_with (go_at_call 72; (with_reducible refine HI2.out.mono ?_); rintro e' w' ⟨rfl, S', hS', hw⟩; have HS' := Lib.hid hS'; have HWf := Lib.hid hw; clear hS' hw)
                    go_end0
                    exact ⟨rfl, L ++ S', HCt.out.all L S' hL.out HS'.out, by have := HWf.out; simpa using this⟩
                  · have h6I : ¬ (en : Int) < (e : Int) := by omega
                    have hno : Hid (U2 = [] ∨ V2 = []) := Lib.hid (.inr (list_zero (by have := hAr.out; omega)))
                    go_wp2
                    go_end0
                    exact ⟨rfl, L ++ (U2 ++ V2), HCt.out.all L _ hL.out (mrg_none HCt.out.s2 HCt.out.t2 hno.out), by have := HA3.out; simpa using this⟩
                · have h5I : ¬ (md : Int) < (en : Int) := by omega
                  have hno : Hid (U2 = [] ∨ V2 = []) := Lib.hid (.inl (list_zero (by have := hAr.out; omega)))
                  go_wp2
                  go_end0
                  exact ⟨rfl, L ++ (U2 ++ V2), HCt.out.all L _ hL.out (mrg_none HCt.out.s2 HCt.out.t2 hno.out), by have := HA3.out; simpa using this⟩
              · have h4I : ¬ (s : Int) < (md : Int) := by omega
                have hno1 : Hid (U1 = [] ∨ V1 = []) := Lib.hid (.inr (list_zero (by have := hAr.out; omega)))
                obtain ⟨L, hLe⟩ : ∃ L, Hid (U1 ++ V1 = L) := ⟨_, Lib.hid rfl⟩
                have hL : Hid (Stab (fst sd) (U1 ++ V1) L) := Lib.hid (by rw [← hLe.out]; exact mrg_none HCt.out.s1 HCt.out.t1 hno1.out)
                have HA3 : Hid (Sw w0 _ A m c ((P ++ L) ++ (U2 ++ (V2 ++ R)))) := Lib.hid (by have := HA2.out; rw [← hLe.out]; simpa using this)
                clear HA2
                go_upto_region 43 with (fail)
                by_cases h5 : md < en
                · have h5I : (md : Int) < (en : Int) := by omega
                  by_cases h6 : en < e
                  · have h6I : (en : Int) < (e : Int) := by omega
                    have HI2 := Lib.hid (IH.out (P ++ L) U2 V2 R (by have := hAr.out; omega) ⟨HCt.out.b2, HCt.out.s2, HCt.out.t2, by have := hAr.out; omega, by have := hAr.out; omega⟩ _ md en e HA3.out (by have := hL.out.len; have := hAr.out; simp only [List.length_append] at *; omega) (by have := hAr.out; omega) (by have := hAr.out; omega))
                    go_wp2_with (go_at_call 72; (with_reducible refine HI2.out.mono ?_); rintro e' w' ⟨rfl, S', hS', hw⟩; have HS' := Lib.hid hS'; have HWf := Lib.hid hw; clear hS' hw)
                    go_end0
                    exact ⟨rfl, L ++ S', HCt.out.all L S' hL.out HS'.out, by have := HWf.out; simpa using this⟩
                  · have h6I : ¬ (en : Int) < (e : Int) := by omega
                    have hno : Hid (U2 = [] ∨ V2 = []) := Lib.hid (.inr (list_zero (by have := hAr.out; omega)))
                    go_wp2
                    go_end0
                    exact ⟨rfl, L ++ (U2 ++ V2), HCt.out.all L _ hL.out (mrg_none HCt.out.s2 HCt.out.t2 hno.out), by have := HA3.out; simpa using this⟩
                · have h5I : ¬ (md : Int) < (en : Int) := by omega
                  have hno : Hid (U2 = [] ∨ V2 = []) := Lib.hid (.inl (list_zero (by have := hAr.out; omega)))
                  go_wp2
                  go_end0
                  exact ⟨rfl, L ++ (U2 ++ V2), HCt.out.all L _ hL.out (mrg_none HCt.out.s2 HCt.out.t2 hno.out), by have := HA3.out; simpa using this⟩
            · have h3I : ¬ (a : Int) < (s : Int) := by omega
              have hno1 : Hid (U1 = [] ∨ V1 = []) := Lib.hid (.inl (list_zero (by have := hAr.out; omega)))
              obtain ⟨L, hLe⟩ : ∃ L, Hid (U1 ++ V1 = L) := ⟨_, Lib.hid rfl⟩
              have hL : Hid (Stab (fst sd) (U1 ++ V1) L) := Lib.hid (by rw [← hLe.out]; exact mrg_none HCt.out.s1 HCt.out.t1 hno1.out)
              have HA3 : Hid (Sw w0 _ A m c ((P ++ L) ++ (U2 ++ (V2 ++ R)))) := Lib.hid (by have := HA2.out; rw [← hLe.out]; simpa using this)
              clear HA2
              go_upto_region 43 with (fail)
              by_cases h5 : md < en
              · have h5I : (md : Int) < (en : Int) := by omega
                by_cases h6 : en < e
                · have h6I : (en : Int) < (e : Int) := by omega
                  have HI2 := Lib.hid (IH.out (P ++ L) U2 V2 R (by have := hAr.out; omega) ⟨HCt.out.b2, HCt.out.s2, HCt.out.t2, by have := hAr.out; omega, by have := hAr.out; omega⟩ _ md en e HA3.out (by have := hL.out.len; have := hAr.out; simp only [List.length_append] at *; omega) (by have := hAr.out; omega) (by have := hAr.out; omega))
                  go_wp2_with (go_at_call 72; (with_reducible refine HI2.out.mono ?_); rintro e' w' ⟨rfl, S', hS', hw⟩; have HS' := Lib.hid hS'; have HWf := Lib.hid hw; clear hS' hw)
                  go_end0
                  exact ⟨rfl, L ++ S', HCt.out.all L S' hL.out HS'.out, by have := HWf.out; simpa using this⟩
                · have h6I : ¬ (en : Int) < (e : Int) := by omega
                  have hno : Hid (U2 = [] ∨ V2 = []) := Lib.hid (.inr (list_zero (by have := hAr.out; omega)))
                  go_wp2
                  go_end0
                  exact ⟨rfl, L ++ (U2 ++ V2), HCt.out.all L _ hL.out (mrg_none HCt.out.s2 HCt.out.t2 hno.out), by have := HA3.out; simpa using this⟩
              · have h5I : ¬ (md : Int) < (en : Int) := by omega
                have hno : Hid (U2 = [] ∨ V2 = []) := Lib.hid (.inl (list_zero (by have := hAr.out; omega)))
                go_wp2
                go_end0
                exact ⟨rfl, L ++ (U2 ++ V2), HCt.out.all L _ hL.out (mrg_none HCt.out.s2 HCt.out.t2 hno.out), by have := HA3.out; simpa using this⟩
          · have h2I : ¬ (k : Int) < (en : Int) := by omega
            have hno0 : Hid (U2 = [] ∨ V1 = []) := Lib.hid (.inr (list_zero (by have := hAr.out; omega)))
            have HA2 : Hid (Sw w0 _ A m c (P ++ (U1 ++ (V1 ++ (U2 ++ (V2 ++ R)))))) := Lib.hid (by
              have := HA1.out
              rcases hno0.out with e0 | e0 <;> rw [e0] at this ⊢ <;> simpa using this)
            clear HA1
            go_upto_region 41 with (fail)
            by_cases h3 : a < s
            · have h3I : (a : Int) < (s : Int) := by omega
              by_cases h4 : s < md
              · have h4I : (s : Int) < (md : Int) := by omega
                have HI1 := Lib.hid (IH.out P U1 V1 (U2 ++ (V2 ++ R)) (by have := hAr.out; omega) ⟨HCt.out.b1, HCt.out.s1, HCt.out.t1, by have := hAr.out; omega, by have := hAr.out; omega⟩ _ a s md HA2.out (by have := hAr.out; omega) (by have := hAr.out; omega) (by have := hAr.out; omega))
                go_upto_region 43 with (go_at_call 72; (with_reducible refine HI1.out.mono ?_); rintro e' w' ⟨rfl, L, hS', hw⟩; have hL := Lib.hid hS'; have HW' := Lib.hid hw; clear hS' hw)
                have HA3 : Hid (Sw w0 _ A m c ((P ++ L) ++ (U2 ++ (V2 ++ R)))) := Lib.hid (by have := HW'.out; simpa using this)
                clear HW' HA2
                by_cases h5 : md < en
                · have h5I : (md : Int) < (en : Int) := by omega
                  by_cases h6 : en < e
                  · have h6I : (en : Int) < (e : Int) := by omega
                    have HI2 := Lib.hid (IH.out (P ++ L) U2 V2 R (by have := hAr.out; omega) ⟨HCt.out.b2, HCt.out.s2, HCt.out.t2, by have := hAr.out; omega, by have := hAr.out; omega⟩ _ md en e HA3.out (by have := hL.out.len; have := hAr.out; simp only [List.length_append] at *; omega) (by have := hAr.out; omega) (by have := hAr.out; omega))
                    go_wp2_with (go_at_call 72; (with_reducible refine HI2.out.mono ?_); rintro e' w' ⟨rfl, S', hS', hw⟩; have HS' := Lib.hid hS'; have HWf := Lib.hid hw; clear hS' hw)
                    go_end0
                    exact ⟨rfl, L ++ S', HCt.out.all L S' hL.out HS'.out, by have := HWf.out; simpa using this⟩
                  · have h6I : ¬ (en : Int) < (e : Int) := by omega
                    have hno : Hid (U2 = [] ∨ V2 = []) := Lib.hid (.inr (list_zero (by have := hAr.out; omega)))
                    go_wp2
                    go_end0
                    exact ⟨rfl, L ++ (U2 ++ V2), HCt.out.all L _ hL.out (mrg_none HCt.out.s2 HCt.out.t2 hno.out), by have := HA3.out; simpa using this⟩
                · have h5I : ¬ (md : Int) < (en : Int) := by omega
                  have hno : Hid (U2 = [] ∨ V2 = []) := Lib.hid (.inl (list_zero (by have := hAr.out; omega)))
                  go_wp2
                  go_end0
                  exact ⟨rfl, L ++ (U2 ++ V2), HCt.out.all L _ hL.out (mrg_none HCt.out.s2 HCt.out.t2 hno.out), by have := HA3.out; simpa using this⟩
              · have h4I : ¬ (s : Int) < (md : Int) := by omega
                have hno1 : Hid (U1 = [] ∨ V1 = []) := Lib.hid (.inr (list_zero (by have := hAr.out; omega)))
                obtain ⟨L, hLe⟩ : ∃ L, Hid (U1 ++ V1 = L) := ⟨_, Lib.hid rfl⟩
                have hL : Hid (Stab (fst sd) (U1 ++ V1) L) := Lib.hid (by rw [← hLe.out]; exact mrg_none HCt.out.s1 HCt.out.t1 hno1.out)
                have HA3 : Hid (Sw w0 _ A m c ((P ++ L) ++ (U2 ++ (V2 ++ R)))) := Lib.hid (by have := HA2.out; rw [← hLe.out]; simpa using this)
                clear HA2
                go_upto_region 43 with (fail)
                by_cases h5 : md < en
                · have h5I : (md : Int) < (en : Int) := by omega
                  by_cases h6 : en < e
                  · have h6I : (en : Int) < (e : Int) := by omega
                    have HI2 := Lib.hid (IH.out (P ++ L) U2 V2 R (by have := hAr.out; omega) ⟨HCt.out.b2, HCt.out.s2, HCt.out.t2, by have := hAr.out; omega, by have := hAr.out; omega⟩ _ md en e HA3.out (by have := hL.out.len; have := hAr.out; simp only [List.length_append] at *; omega) (by have := hAr.out; omega) (by have := hAr.out; omega))
                    go_wp2_with (go_at_call 72; (with_reducible refine HI2.out.mono ?_); rintro e' w' ⟨rfl, S', hS', hw⟩; have HS' := Lib.hid hS'; have HWf := Lib.hid hw; clear hS' hw)
                    go_end0
                    exact ⟨rfl, L ++ S', HCt.out.all L S' hL.out HS'.out, by have := HWf.out; simpa using this⟩
                  · have h6I : ¬ (en : Int) < (e : Int) := by omega
                    have hno : Hid (U2 = [] ∨ V2 = []) := Lib.hid (.inr (list_zero (by have := hAr.out; omega)))
                    go_wp2
                    go_end0
                    exact ⟨rfl, L ++ (U2 ++ V2), HCt.out.all L _ hL.out (mrg_none HCt.out.s2 HCt.out.t2 hno.out), by have := HA3.out; simpa using this⟩
                · have h5I : ¬ (md : Int) < (en : Int) := by omega
                  have hno : Hid (U2 = [] ∨ V2 = []) := Lib.hid (.inl (list_zero (by have := hAr.out; omega)))
                  go_wp2
                  go_end0
                  exact ⟨rfl, L ++ (U2 ++ V2), HCt.out.all L _ hL.out (mrg_none HCt.out.s2 HCt.out.t2 hno.out), by have := HA3.out; simpa using this⟩
            · have h3I : ¬ (a : Int) < (s : Int) := by omega
              have hno1 : Hid (U1 = [] ∨ V1 = []) := Lib.hid (.inl (list_zero (by have := hAr.out; omega)))
              obtain ⟨L, hLe⟩ : ∃ L, Hid (U1 ++ V1 = L) := ⟨_, Lib.hid rfl⟩
              have hL : Hid (Stab (fst sd) (U1 ++ V1) L) := Lib.hid (by rw [← hLe.out]; exact mrg_none HCt.out.s1 HCt.out.t1 hno1.out)
              have HA3 : Hid (Sw w0 _ A m c ((P ++ L) ++ (U2 ++ (V2 ++ R)))) := Lib.hid (by have := HA2.out; rw [← hLe.out]; simpa using this)
              clear HA2
              go_upto_region 43 with (fail)
              by_cases h5 : md < en
              · have h5I : (md : Int) < (en : Int) := by omega
                by_cases h6 : en < e
                · have h6I : (en : Int) < (e : Int) := by omega
                  have HI2 := Lib.hid (IH.out (P ++ L) U2 V2 R (by have := hAr.out; omega) ⟨HCt.out.b2, HCt.out.s2, HCt.out.t2, by have := hAr.out; omega, by have := hAr.out; omega⟩ _ md en e HA3.out (by have := hL.out.len; have := hAr.out; simp only [List.length_append] at *; omega) (by have := hAr.out; omega) (by have := hAr.out; omega))
                  go_wp2_with (go_at_call 72; (with_reducible refine HI2.out.mono ?_); rintro e' w' ⟨rfl, S', hS', hw⟩; have HS' := Lib.hid hS'; have HWf := Lib.hid hw; clear hS' hw)
                  go_end0
                  exact ⟨rfl, L ++ S', HCt.out.all L S' hL.out HS'.out, by have := HWf.out; simpa using this⟩
                · have h6I : ¬ (en : Int) < (e : Int) := by omega
                  have hno : Hid (U2 = [] ∨ V2 = []) := Lib.hid (.inr (list_zero (by have := hAr.out; omega)))
                  go_wp2
                  go_end0
                  exact ⟨rfl, L ++ (U2 ++ V2), HCt.out.all L _ hL.out (mrg_none HCt.out.s2 HCt.out.t2 hno.out), by have := HA3.out; simpa using this⟩
              · have h5I : ¬ (md : Int) < (en : Int) := by omega
                have hno : Hid (U2 = [] ∨ V2 = []) := Lib.hid (.inl (list_zero (by have := hAr.out; omega)))
                go_wp2
                go_end0
                exact ⟨rfl, L ++ (U2 ++ V2), HCt.out.all L _ hL.out (mrg_none HCt.out.s2 HCt.out.t2 hno.out), by have := HA3.out; simpa using this⟩
        · have h1I : ¬ (s : Int) < (k : Int) := by omega
          have hno0 : Hid (U2 = [] ∨ V1 = []) := Lib.hid (.inl (list_zero (by have := hAr.out; omega)))
          have HA2 : Hid (Sw w0 _ A m c (P ++ (U1 ++ (V1 ++ (U2 ++ (V2 ++ R)))))) := Lib.hid (by
            have := HA1.out
            rcases hno0.out with e0 | e0 <;> rw [e0] at this ⊢ <;> simpa using this)
          clear HA1
          go_upto_region 41 with (fail)
          by_cases h3 : a < s
          · have h3I : (a : Int) < (s : Int) := by omega
            by_cases h4 : s < md
            · have h4I : (s : Int) < (md : Int) := by omega
              have HI1 := Lib.hid (IH.out P U1 V1 (U2 ++ (V2 ++ R)) (by have := hAr.out; omega) ⟨HCt.out.b1, HCt.out.s1, HCt.out.t1, by have := hAr.out; omega, by have := hAr.out; omega⟩ _ a s md HA2.out (by have := hAr.out; omega) (by have := hAr.out; omega) (by have := hAr.out; omega))
              go_upto_region 43 with (go_at_call 72; (with_reducible refine HI1.out.mono ?_); rintro e' w' ⟨rfl, L, hS', hw⟩; have hL := Lib.hid hS'; have HW' := Lib.hid hw; clear hS' hw)
              have HA3 : Hid (Sw w0 _ A m c ((P ++ L) ++ (U2 ++ (V2 ++ R)))) := Lib.hid (by have := HW'.out; simpa using this)
              clear HW' HA2
              by_cases h5 : md < en
              · have h5I : (md : Int) < (en : Int) := by omega
                by_cases h6 : en < e
                · have h6I : (en : Int) < (e : Int) := by omega
                  have HI2 := Lib.hid (IH.out (P ++ L) U2 V2 R (by have := hAr.out; omega) ⟨HCt.out.b2, HCt.out.s2, HCt.out.t2, by have := hAr.out; omega, by have := hAr.out; omega⟩ _ md en e HA3.out (by have := hL.out.len; have := hAr.out; simp only [List.length_append] at *; omega) (by have := hAr.out; omega) (by have := hAr.out; omega))
                  go_wp2_with (go_at_call 72; (with_reducible refine HI2.out.mono ?_); rintro e' w' ⟨rfl, S', hS', hw⟩; have HS' := Lib.hid hS'; have HWf := Lib.hid hw; clear hS' hw)
                  go_end0
                  exact ⟨rfl, L ++ S', HCt.out.all L S' hL.out HS'.out, by have := HWf.out; simpa using this⟩
                · have h6I : ¬ (en : Int) < (e : Int) := by omega
                  have hno : Hid (U2 = [] ∨ V2 = []) := Lib.hid (.inr (list_zero (by have := hAr.out; omega)))
                  go_wp2
                  go_end0
                  exact ⟨rfl, L ++ (U2 ++ V2), HCt.out.all L _ hL.out (mrg_none HCt.out.s2 HCt.out.t2 hno.out), by have := HA3.out; simpa using this⟩
              · have h5I : ¬ (md : Int) < (en : Int) := by omega
                have hno : Hid (U2 = [] ∨ V2 = []) := Lib.hid (.inl (list_zero (by have := hAr.out; omega)))
                go_wp2
                go_end0
                exact ⟨rfl, L ++ (U2 ++ V2), HCt.out.all L _ hL.out (mrg_none HCt.out.s2 HCt.out.t2 hno.out), by have := HA3.out; simpa using this⟩
            · have h4I : ¬ (s : Int) < (md : Int) := by omega
              have hno1 : Hid (U1 = [] ∨ V1 = []) := Lib.hid (.inr (list_zero (by have := hAr.out; omega)))
              obtain ⟨L, hLe⟩ : ∃ L, Hid (U1 ++ V1 = L) := ⟨_, Lib.hid rfl⟩
              have hL : Hid (Stab (fst sd) (U1 ++ V1) L) := Lib.hid (by rw [← hLe.out]; exact mrg_none HCt.out.s1 HCt.out.t1 hno1.out)
              have HA3 : Hid (Sw w0 _ A m c ((P ++ L) ++ (U2 ++ (V2 ++ R)))) := Lib.hid (by have := HA2.out; rw [← hLe.out]; simpa using this)
              clear HA2
              go_upto_region 43 with (fail)
              by_cases h5 : md < en
              · have h5I : (md : Int) < (en : Int) := by omega
                by_cases h6 : en < e
                · have h6I : (en : Int) < (e : Int) := by omega
                  have HI2 := Lib.hid (IH.out (P ++ L) U2 V2 R (by have := hAr.out; omega) ⟨HCt.out.b2, HCt.out.s2, HCt.out.t2, by have := hAr.out; omega, by have := hAr.out; omega⟩ _ md en e HA3.out (by have := hL.out.len; have := hAr.out; simp only [List.length_append] at *; omega) (by have := hAr.out; omega) (by have := hAr.out; omega))
                  go_wp2_with (go_at_call 72; (with_reducible refine HI2.out.mono ?_); rintro e' w' ⟨rfl, S', hS', hw⟩; have HS' := Lib.hid hS'; have HWf := Lib.hid hw; clear hS' hw)
                  go_end0
                  exact ⟨rfl, L ++ S', HCt.out.all L S' hL.out HS'.out, by have := HWf.out; simpa using this⟩
                · have h6I : ¬ (en : Int) < (e : Int) := by omega
                  have hno : Hid (U2 = [] ∨ V2 = []) := Lib.hid (.inr (list_zero (by have := hAr.out; omega)))
                  go_wp2
                  go_end0
                  exact ⟨rfl, L ++ (U2 ++ V2), HCt.out.all L _ hL.out (mrg_none HCt.out.s2 HCt.out.t2 hno.out), by have := HA3.out; simpa using this⟩
              · have h5I : ¬ (md : Int) < (en : Int) := by omega
                have hno : Hid (U2 = [] ∨ V2 = []) := Lib.hid (.inl (list_zero (by have := hAr.out; omega)))
                go_wp2
                go_end0
                exact ⟨rfl, L ++ (U2 ++ V2), HCt.out.all L _ hL.out (mrg_none HCt.out.s2 HCt.out.t2 hno.out), by have := HA3.out; simpa using this⟩
          · have h3I : ¬ (a : Int) < (s : Int) := by omega
            have hno1 : Hid (U1 = [] ∨ V1 = []) := Lib.hid (.inl (list_zero (by have := hAr.out; omega)))
            obtain ⟨L, hLe⟩ : ∃ L, Hid (U1 ++ V1 = L) := ⟨_, Lib.hid rfl⟩
            have hL : Hid (Stab (fst sd) (U1 ++ V1) L) := Lib.hid (by rw [← hLe.out]; exact mrg_none HCt.out.s1 HCt.out.t1 hno1.out)
            have HA3 : Hid (Sw w0 _ A m c ((P ++ L) ++ (U2 ++ (V2 ++ R)))) := Lib.hid (by have := HA2.out; rw [← hLe.out]; simpa using this)
            clear HA2
            go_upto_region 43 with (fail)
            by_cases h5 : md < en
            · have h5I : (md : Int) < (en : Int) := by omega
              by_cases h6 : en < e
              · have h6I : (en : Int) < (e : Int) := by omega
                have HI2 := Lib.hid (IH.out (P ++ L) U2 V2 R (by have := hAr.out; omega) ⟨HCt.out.b2, HCt.out.s2, HCt.out.t2, by have := hAr.out; omega, by have := hAr.out; omega⟩ _ md en e HA3.out (by have := hL.out.len; have := hAr.out; simp only [List.length_append] at *; omega) (by have := hAr.out; omega) (by have := hAr.out; omega))
                go_wp2_with (go_at_call 72; (with_reducible refine HI2.out.mono ?_); rintro e' w' ⟨rfl, S', hS', hw⟩; have HS' := Lib.hid hS'; have HWf := Lib.hid hw; clear hS' hw)
                go_end0
                exact ⟨rfl, L ++ S', HCt.out.all L S' hL.out HS'.out, by have := HWf.out; simpa using this⟩
              · have h6I : ¬ (en : Int) < (e : Int) := by omega
                have hno : Hid (U2 = [] ∨ V2 = []) := Lib.hid (.inr (list_zero (by have := hAr.out; omega)))
                go_wp2
                go_end0
                exact ⟨rfl, L ++ (U2 ++ V2), HCt.out.all L _ hL.out (mrg_none HCt.out.s2 HCt.out.t2 hno.out), by have := HA3.out; simpa using this⟩
            · have h5I : ¬ (md : Int) < (en : Int) := by omega
              have hno : Hid (U2 = [] ∨ V2 = []) := Lib.hid (.inl (list_zero (by have := hAr.out; omega)))
              go_wp2
              go_end0
              exact ⟨rfl, L ++ (U2 ++ V2), HCt.out.all L _ hL.out (mrg_none HCt.out.s2 HCt.out.t2 hno.out), by have := HA3.out; simpa using this⟩
end Go.Proofs.Ytilbhnloelgpdaa
