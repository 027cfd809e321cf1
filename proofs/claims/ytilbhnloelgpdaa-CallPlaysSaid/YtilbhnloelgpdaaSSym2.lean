/- symMergeCmpFunc where the second list is one order alone. -/
import Derived.Test.YtilbhnloelgpdaaSSym1
namespace Go.Proofs.Ytilbhnloelgpdaa
open Go.RowKit
set_option linter.unusedVariables false
set_option linter.unusedSimpArgs false
set_option maxHeartbeats 8000000 in
set_option maxRecDepth 100000 in
theorem sym_last (w0 : World) (A : Option Addr) (m c : Nat) (hm : m ≤ 64) (sd : Bool) (P U R : List Ord) (v : Ord) (hp : SymPre sd U [v]) (hu2 : 2 ≤ U.length) : SymOk w0 A m c sd P U [v] R := by
  intro w a x e h ha hk he
  have hlen : P.length + (U.length + (1 + R.length)) = m := by have := h.len; simp only [List.length_append, List.length_cons, List.length_nil] at this; omega
  have H := Lib.hid h
  have HV := Lib.hid (fun s => mrg_last (v := v) hp.su (s := s))
  have Hu : Hid (∀ z, z < U.length → (P ++ (U ++ ([v] ++ R))).getD (a + z) ord0 = U.getD z ord0) := Lib.hid fun z hz => by
    have := at_u P U [v] R hz
    rwa [ha] at this
  have hvb : Hid (v.buys = sd) := Lib.hid (hp.bu _ (List.mem_append_right _ (by simp)))
  have Ha : Hid ((P ++ (U ++ ([v] ++ R))).getD x ord0 = v) := Lib.hid (by
    have := at_v P U [v] R (x := 0) (by simp)
    rw [ha, Nat.add_zero, hk] at this
    simpa using this)
  obtain ⟨u, hu⟩ : ∃ u, Hid (U.length = u) := ⟨_, Lib.hid rfl⟩
  have hPa := Lib.hid ha
  rw [ha] at hlen
  rw [hu.out] at hlen hk HV Hu hu2
  have he : x + 1 = e := he
  have hk1 := Lib.hid hk
  have he1 := Lib.hid he
  have hl1 := Lib.hid hlen
  have q1 : IntKind.i64.wrap ((x : Int) - (a : Int)) = (u : Int) := w_sub hk (by omega)
  have q0 : IntKind.i64.wrap ((e : Int) - (x : Int)) = 1 := w_sub (c := 1) he (by omega)
  have hne : ((u : Int) == 1) = false := by rw [beq_eq_false_iff_ne]; omega
  have u64 : u ≤ 64 := by omega
  have a64 : a ≤ 64 := by omega
  have x64 : x < m := by omega
  clear h hp ha hk he hlen hu2
  obtain ⟨F, hF⟩ : ∃ F, Hid (P ++ (U ++ ([v] ++ R)) = F) := ⟨_, Lib.hid rfl⟩
  rw [hF.out] at H Hu Ha
  go_enter Try.func72, Try.ntmps72
  go_upto_region 15 with (fail)
  go_loopg [14, 15, 16] u (fun gk s14 s15 s16 wr => ∃ (s t i j : Nat), gk = t - s ∧ s ≤ t ∧ t ≤ u ∧ s14 = .int .i64 (i : Int) ∧ s15 = .int .i64 (j : Int) ∧ Hid (i = a + s ∧ j = a + t) ∧ Hid (s = 0 ∨ fst sd v (U.getD (s - 1) ord0) = false) ∧ Hid (t = u ∨ fst sd v (U.getD t ord0) = true) ∧ Hid (Sw w0 wr A m c F))
  case atStart => exact ⟨0, u, a, x, rfl, Nat.zero_le _, Nat.le_refl _, rfl, rfl, Lib.hid ⟨rfl, hk1.out.symm⟩, Lib.hid (.inl rfl), Lib.hid (.inl rfl), H⟩
  case round =>
    clear H
    obtain ⟨s, t, i, j, rfl, hst, htv, rfl, rfl, hij, h1, h2, HW1⟩ := hrel
    by_cases hlt : s < t
    · obtain ⟨z, hz⟩ : ∃ z, Hid ((s + t) / 2 = z) := ⟨_, Lib.hid rfl⟩
      have hz1 : s ≤ z ∧ z < t := by have := hz.out; omega
      have hijI : (i : Int) < (j : Int) := by have := hij.out; omega
      obtain ⟨y, hye⟩ : ∃ y, Hid (a + z = y) := ⟨_, Lib.hid rfl⟩
      have hy : y < m := by have := hye.out; have := hl1.out; omega
      have hx : x < m := x64
      obtain ⟨y', hy'⟩ : ∃ y', Hid (y + 1 = y') := ⟨_, Lib.hid rfl⟩
      have q5 := w_one hy'.out (by have := hy'.out; omega)
      have HM1 := Lib.hid (show t - (z + 1) < t - s by omega)
      have HM2 := Lib.hid (show z - s < t - s by omega)
      obtain ⟨q, hqv⟩ : ∃ q, Hid (U.getD z ord0 = q) := ⟨_, Lib.hid rfl⟩
      obtain ⟨p, hpv⟩ : ∃ p, Hid (v = p) := ⟨_, Lib.hid rfl⟩
      have HG : Hid (F.getD x ord0 = p ∧ F.getD y ord0 = q) := Lib.hid ⟨by rw [Ha.out, hpv.out], by rw [← hye.out, Hu.out z (by omega), hqv.out]⟩
      have hpb : Hid (p.buys = sd) := Lib.hid (by rw [← hpv.out]; exact hvb.out)
      obtain ⟨q2, q3, q4⟩ := w_mid (i := i) (j := j) (x := y) (by have := hij.out; have := hye.out; have := hz.out; omega) (by have := hij.out; omega)
      go_upto_region 17 with (fail)
      rw [q4]
      clear q2 q3 q4
      obtain ⟨b, o, rfl⟩ := HW1.out.lies (by omega)
      obtain ⟨c0, c1, c2, c3, c4, c5⟩ := HW1.out.six hx
      obtain ⟨d0, d1, d2, d3, d4, d5⟩ := HW1.out.six hy
      rw [HG.out.1] at c0 c1 c2 c3 c4 c5
      rw [HG.out.2] at d0 d1 d2 d3 d4 d5
      have x1 : (0 : Int) ≤ (x : Int) := by omega
      have x2 : (x : Int) < (m : Int) := by omega
      have y1 : (0 : Int) ≤ (y : Int) := by omega
      have y2 : (y : Int) < (m : Int) := by omega
      have hAc : Hid (acmp p q < 0 ↔ fst sd p q = true) := Lib.hid (by
        have := acmp_fst p q
        rwa [hpb.out] at this)
      obtain ⟨r, hr⟩ : ∃ r, Hid (acmp p q = r) := ⟨_, Lib.hid rfl⟩
      rw [hr.out] at hAc
      have HS0 : Hid ((wr.drew.cell? ⟨b, o + x * 6, none⟩ = some (.int .i64 p.id) ∧ wr.drew.cell? ⟨b, o + x * 6 + 1, none⟩ = some (.int .i64 p.owner) ∧ wr.drew.cell? ⟨b, o + x * 6 + 2, none⟩ = some (.int .i64 p.price) ∧ wr.drew.cell? ⟨b, o + x * 6 + 3, none⟩ = some (.int .i64 p.amount) ∧ wr.drew.cell? ⟨b, o + x * 6 + 4, none⟩ = some (.int .i64 p.place) ∧ wr.drew.cell? ⟨b, o + x * 6 + 5, none⟩ = some (.bool p.buys)) ∧ (wr.drew.cell? ⟨b, o + y * 6, none⟩ = some (.int .i64 q.id) ∧ wr.drew.cell? ⟨b, o + y * 6 + 1, none⟩ = some (.int .i64 q.owner) ∧ wr.drew.cell? ⟨b, o + y * 6 + 2, none⟩ = some (.int .i64 q.price) ∧ wr.drew.cell? ⟨b, o + y * 6 + 3, none⟩ = some (.int .i64 q.amount) ∧ wr.drew.cell? ⟨b, o + y * 6 + 4, none⟩ = some (.int .i64 q.place) ∧ wr.drew.cell? ⟨b, o + y * 6 + 5, none⟩ = some (.bool q.buys)) ∧ Hid (Below wr.heap.size wr wr.drew)) := Lib.hid ⟨⟨c0, c1, c2, c3, c4, c5⟩, ⟨d0, d1, d2, d3, d4, d5⟩, Lib.hid (Below.refl _ _).drew⟩
      have HK : Hid (∀ wx, ((wx.cell? ⟨b, o + x * 6, none⟩ = some (.int .i64 p.id) ∧ wx.cell? ⟨b, o + x * 6 + 1, none⟩ = some (.int .i64 p.owner) ∧ wx.cell? ⟨b, o + x * 6 + 2, none⟩ = some (.int .i64 p.price) ∧ wx.cell? ⟨b, o + x * 6 + 3, none⟩ = some (.int .i64 p.amount) ∧ wx.cell? ⟨b, o + x * 6 + 4, none⟩ = some (.int .i64 p.place) ∧ wx.cell? ⟨b, o + x * 6 + 5, none⟩ = some (.bool p.buys)) ∧ (wx.cell? ⟨b, o + y * 6, none⟩ = some (.int .i64 q.id) ∧ wx.cell? ⟨b, o + y * 6 + 1, none⟩ = some (.int .i64 q.owner) ∧ wx.cell? ⟨b, o + y * 6 + 2, none⟩ = some (.int .i64 q.price) ∧ wx.cell? ⟨b, o + y * 6 + 3, none⟩ = some (.int .i64 q.amount) ∧ wx.cell? ⟨b, o + y * 6 + 4, none⟩ = some (.int .i64 q.place) ∧ wx.cell? ⟨b, o + y * 6 + 5, none⟩ = some (.bool q.buys)) ∧ Hid (Below wr.heap.size wr wx)) → Calls Try.prog 39 #[.agg #[.int .i64 p.id, .int .i64 p.owner, .int .i64 p.price, .int .i64 p.amount, .int .i64 p.place, .bool p.buys], .agg #[.int .i64 q.id, .int .i64 q.owner, .int .i64 q.price, .int .i64 q.amount, .int .i64 q.place, .bool q.buys]] wx fun e w' => e = .returned (.int .i64 r) ∧ ((w'.cell? ⟨b, o + x * 6, none⟩ = some (.int .i64 p.id) ∧ w'.cell? ⟨b, o + x * 6 + 1, none⟩ = some (.int .i64 p.owner) ∧ w'.cell? ⟨b, o + x * 6 + 2, none⟩ = some (.int .i64 p.price) ∧ w'.cell? ⟨b, o + x * 6 + 3, none⟩ = some (.int .i64 p.amount) ∧ w'.cell? ⟨b, o + x * 6 + 4, none⟩ = some (.int .i64 p.place) ∧ w'.cell? ⟨b, o + x * 6 + 5, none⟩ = some (.bool p.buys)) ∧ (w'.cell? ⟨b, o + y * 6, none⟩ = some (.int .i64 q.id) ∧ w'.cell? ⟨b, o + y * 6 + 1, none⟩ = some (.int .i64 q.owner) ∧ w'.cell? ⟨b, o + y * 6 + 2, none⟩ = some (.int .i64 q.price) ∧ w'.cell? ⟨b, o + y * 6 + 3, none⟩ = some (.int .i64 q.amount) ∧ w'.cell? ⟨b, o + y * 6 + 4, none⟩ = some (.int .i64 q.place) ∧ w'.cell? ⟨b, o + y * 6 + 5, none⟩ = some (.bool q.buys)) ∧ Hid (Below wr.heap.size wr w'))) := Lib.hid fun wx hs => (ahead_calls wx p q).mono (by
        rintro e w' ⟨rfl, hb⟩
        have hbw := below_next hs.2.2.out hb
        refine ⟨by rw [hr.out], ?_, ?_, Lib.hid hbw⟩
        · have := (HW1.out.below hbw).six hx
          rwa [HG.out.1] at this
        · have := (HW1.out.below hbw).six hy
          rwa [HG.out.2] at this)
      clear c0 c1 c2 c3 c4 c5 d0 d1 d2 d3 d4 d5
      go_wp2_with (fail)
      go_region_held3 (fun wx => ((wx.cell? ⟨b, o + x * 6, none⟩ = some (.int .i64 p.id) ∧ wx.cell? ⟨b, o + x * 6 + 1, none⟩ = some (.int .i64 p.owner) ∧ wx.cell? ⟨b, o + x * 6 + 2, none⟩ = some (.int .i64 p.price) ∧ wx.cell? ⟨b, o + x * 6 + 3, none⟩ = some (.int .i64 p.amount) ∧ wx.cell? ⟨b, o + x * 6 + 4, none⟩ = some (.int .i64 p.place) ∧ wx.cell? ⟨b, o + x * 6 + 5, none⟩ = some (.bool p.buys)) ∧ (wx.cell? ⟨b, o + y * 6, none⟩ = some (.int .i64 q.id) ∧ wx.cell? ⟨b, o + y * 6 + 1, none⟩ = some (.int .i64 q.owner) ∧ wx.cell? ⟨b, o + y * 6 + 2, none⟩ = some (.int .i64 q.price) ∧ wx.cell? ⟨b, o + y * 6 + 3, none⟩ = some (.int .i64 q.amount) ∧ wx.cell? ⟨b, o + y * 6 + 4, none⟩ = some (.int .i64 q.place) ∧ wx.cell? ⟨b, o + y * 6 + 5, none⟩ = some (.bool q.buys)) ∧ Hid (Below wr.heap.size wr wx)))
        (first | assumption | exact HS0.out)
        ((go_at_call 39; (with_reducible refine (HK.out _ (by assumption)).mono ?_); rintro e wn ⟨rfl, hsn⟩))
      obtain ⟨_, _, hbn⟩ := hsn
      have HWn := Lib.hid (HW1.out.below hbn.out)
      clear HS0 HK HW1 HG
      by_cases hneg : r < 0
      · have h2n : Hid (z = u ∨ fst sd v (U.getD z ord0) = true) := Lib.hid (.inr (by
          rw [hpv.out, hqv.out]; exact hAc.out.1 hneg))
        have hdb : (!decide (r < 0)) = false := by simp [hneg]
        rw [hdb]
        clear hdb
        go_wp2
        go_roundg (z - s)
        case measure => exact HM2.out
        case rel => exact ⟨s, z, i, y, rfl, by omega, by omega, rfl, by first | rfl | go_num, Lib.hid ⟨hij.out.1, hye.out.symm⟩, h1, h2n, HWn⟩
      · have h1n : Hid (z + 1 = 0 ∨ fst sd v (U.getD (z + 1 - 1) ord0) = false) := Lib.hid (.inr (by
          rw [Nat.add_sub_cancel, hpv.out, hqv.out]
          cases hq : fst sd p q with
          | false => rfl
          | true => exact absurd (hAc.out.2 hq) hneg))
        have hdb : (!decide (r < 0)) = true := by rw [decide_eq_false hneg]; rfl
        rw [hdb]
        clear hdb
        go_wp2
        go_roundg (t - (z + 1))
        case measure => exact HM1.out
        case rel => exact ⟨z + 1, t, y', j, rfl, by omega, htv, rfl, rfl, Lib.hid ⟨by have := hye.out; have := hy'.out; omega, hij.out.2⟩, h1n, h2, HWn⟩
    · obtain rfl : s = t := by omega
      have hijI : ¬ (i : Int) < (j : Int) := by have := hij.out; omega
      have HF2 := Lib.hid (HV.out s (by omega) h1.out h2.out)
      have HW0 : Hid (Sw w0 wr A m c (P ++ ((U.take u ++ v :: U.drop u) ++ R))) := Lib.hid (by
        have := HW1.out
        rw [← hF.out] at this
        rw [← hu.out, List.take_length, List.drop_length]
        simpa using this)
      clear HW1
      go_upto_region 21 with (fail)
      go_loopg [17] (u - s) (fun gk s17 wr => ∃ (g hi : Nat), gk = g - s ∧ s ≤ g ∧ g ≤ u ∧ s17 = .int .i64 (hi : Int) ∧ Hid (hi = a + g) ∧ Hid (Sw w0 wr A m c (P ++ ((U.take g ++ v :: U.drop g) ++ R))))
      case atStart => exact ⟨u, x, rfl, htv, Nat.le_refl _, rfl, Lib.hid hk1.out.symm, HW0⟩
      case round =>
        clear HW0
        obtain ⟨g, hi, rfl, hsg, hgu, rfl, hxe, HW2⟩ := hrel
        by_cases hgl : s < g
        · obtain ⟨g, rfl⟩ : ∃ g', g = g' + 1 := ⟨g - 1, by omega⟩
          have hlI : (i : Int) < (hi : Int) := by have := hxe.out; have := hij.out; omega
          have hgv : Hid (g < U.length) := Lib.hid (by rw [hu.out]; omega)
          have hdr : Hid (U.drop g = U.getD g ord0 :: U.drop (g + 1)) := Lib.hid (by rw [List.drop_eq_getElem_cons hgv.out, List.getD_eq_getElem?_getD, List.getElem?_eq_getElem hgv.out]; rfl)
          have htk := Lib.hid (Ca.take_at U hgv.out)
          obtain ⟨p, hq⟩ : ∃ p, Hid (U.getD g ord0 = p) := ⟨_, Lib.hid rfl⟩
          rw [hq.out] at hdr htk
          obtain ⟨q, hpu⟩ : ∃ q, Hid (v = q) := ⟨_, Lib.hid rfl⟩
          obtain ⟨lo, hlo⟩ : ∃ lo, Hid (a + g = lo) := ⟨_, Lib.hid rfl⟩
          have HW1 : Hid (Sw w0 wr A m c ((P ++ U.take g) ++ p :: q :: (U.drop (g + 1) ++ R))) := Lib.hid (by
            have := HW2.out
            rw [htk.out, hpu.out] at this
            simpa using this)
          have hHl : Hid ((P ++ U.take g).length = lo) := Lib.hid (by rw [List.length_append, List.length_take, hPa.out, hu.out, ← hlo.out]; omega)
          have hye : Hid (lo + 1 = hi) := Lib.hid (by have := hxe.out; have := hlo.out; omega)
          have HG := Lib.hid (pair_get (P ++ U.take g) (U.drop (g + 1) ++ R) p q)
          rw [hHl.out, hye.out] at HG
          have hn : Hid (s ≤ g ∧ g ≤ u ∧ g - s < g + 1 - s) := Lib.hid ⟨by omega, by omega, by omega⟩
          have hfin : Hid ((P ++ U.take g) ++ q :: p :: (U.drop (g + 1) ++ R) = P ++ ((U.take g ++ v :: U.drop g) ++ R)) := Lib.hid (by rw [hdr.out, hpu.out]; simp)
          have hx : lo < m := by have := hlo.out; have := hl1.out; omega
          have hy : hi < m := by have := hxe.out; have := hl1.out; omega
          have hxy : lo < hi := by have := hye.out; omega
          have q7 := w_less hye.out (by omega)
          clear HW2 hgl
          obtain ⟨b, o, rfl⟩ := HW1.out.lies (by omega)
          obtain ⟨c0, c1, c2, c3, c4, c5⟩ := HW1.out.six hx
          obtain ⟨d0, d1, d2, d3, d4, d5⟩ := HW1.out.six hy
          rw [HG.out.1] at c0 c1 c2 c3 c4 c5
          rw [HG.out.2.1] at d0 d1 d2 d3 d4 d5
          obtain ⟨t1, _⟩ := HW1.out.put hx ord0
          obtain ⟨t2, _⟩ := HW1.out.put hy ord0
          obtain ⟨f0, f1, f2, f3, f4, f5⟩ : (wr.frozen? ⟨b, o + lo * 6, none⟩ = false ∧ wr.frozen? ⟨b, o + lo * 6 + 1, none⟩ = false ∧ wr.frozen? ⟨b, o + lo * 6 + 2, none⟩ = false ∧ wr.frozen? ⟨b, o + lo * 6 + 3, none⟩ = false ∧ wr.frozen? ⟨b, o + lo * 6 + 4, none⟩ = false ∧ wr.frozen? ⟨b, o + lo * 6 + 5, none⟩ = false) := ⟨(t1 0 (by decide)).2, (t1 1 (by decide)).2, (t1 2 (by decide)).2, (t1 3 (by decide)).2, (t1 4 (by decide)).2, (t1 5 (by decide)).2⟩
          obtain ⟨g0, g1, g2, g3, g4, g5⟩ : (wr.frozen? ⟨b, o + hi * 6, none⟩ = false ∧ wr.frozen? ⟨b, o + hi * 6 + 1, none⟩ = false ∧ wr.frozen? ⟨b, o + hi * 6 + 2, none⟩ = false ∧ wr.frozen? ⟨b, o + hi * 6 + 3, none⟩ = false ∧ wr.frozen? ⟨b, o + hi * 6 + 4, none⟩ = false ∧ wr.frozen? ⟨b, o + hi * 6 + 5, none⟩ = false) := ⟨(t2 0 (by decide)).2, (t2 1 (by decide)).2, (t2 2 (by decide)).2, (t2 3 (by decide)).2, (t2 4 (by decide)).2, (t2 5 (by decide)).2⟩
          clear t1 t2
          have x1 : (0 : Int) ≤ (lo : Int) := by omega
          have x2 : (lo : Int) < (m : Int) := by omega
          have y1 : (0 : Int) ≤ (hi : Int) := by omega
          have y2 : (hi : Int) < (m : Int) := by omega
          have HZ := Lib.hid (HW1.out.swap hy hx p q)
          rw [HG.out.2.2.1, hfin.out] at HZ
          go_upto_region 23 with (fail)
          go_region
          go_wp2
          go_roundg (g - s)
          case measure => exact hn.out.2.2
          case rel => exact ⟨g, lo, rfl, hn.out.1, hn.out.2.1, by first | rfl | go_num, Lib.hid hlo.out.symm, Lib.hid (HZ.out.below (Below.refl _ _).drew)⟩
        · obtain rfl : g = s := by omega
          have hlI : ¬ (i : Int) < (hi : Int) := by have := hxe.out; have := hij.out; omega
          go_wp2
          refine bodyPost_ret (by simp [results, Try.results72, asAddr, go_sem]; rfl) rfl ?_
          exact ⟨rfl, _, HF2.out, HW2.out⟩
end Go.Proofs.Ytilbhnloelgpdaa
