/- symMergeCmpFunc where the first list is one order alone. -/
import Derived.Test.YtilbhnloelgpdaaGSrt
namespace Go.Proofs.Ytilbhnloelgpdaa
open Go.RowKit
set_option linter.unusedVariables false
set_option linter.unusedSimpArgs false
theorem at_u (P U V R : List Ord) {x : Nat} (hx : x < U.length) : (P ++ (U ++ (V ++ R))).getD (P.length + x) ord0 = U.getD x ord0 := by
  simp only [List.getD_eq_getElem?_getD]
  rw [List.getElem?_append_right (by omega), List.getElem?_append_left (by omega)]
  congr 2; omega
theorem at_v (P U V R : List Ord) {x : Nat} (hx : x < V.length) : (P ++ (U ++ (V ++ R))).getD (P.length + U.length + x) ord0 = V.getD x ord0 := by
  simp only [List.getD_eq_getElem?_getD]
  rw [List.getElem?_append_right (by omega), List.getElem?_append_right (by omega), List.getElem?_append_left (by omega)]
  congr 2; omega
def SymOk (w0 : World) (A : Option Addr) (m c : Nat) (sd : Bool) (P U V R : List Ord) : Prop :=
  ∀ (w : World) (a k e : Nat), Sw w0 w A m c (P ++ (U ++ (V ++ R))) → P.length = a → a + U.length = k → k + V.length = e →
    Calls Try.prog 72 #[.slice A m c, .int .i64 (a : Int), .int .i64 (k : Int), .int .i64 (e : Int), .func (.func 39) #[] #[]] w fun e w' => e = .returned (.tuple #[]) ∧ ∃ S', Stab (fst sd) (U ++ V) S' ∧ Sw w0 w' A m c (P ++ (S' ++ R))
set_option maxHeartbeats 8000000 in
set_option maxRecDepth 100000 in
theorem sym_one (w0 : World) (A : Option Addr) (m c : Nat) (hm : m ≤ 64) (sd : Bool) (P V R : List Ord) (u : Ord) (hp : SymPre sd [u] V) : SymOk w0 A m c sd P [u] V R := by
  intro w y k e h ha hk he
  have hlen : P.length + (1 + (V.length + R.length)) = m := by have := h.len; simp only [List.length_append, List.length_cons, List.length_nil] at this; omega
  have H := Lib.hid h
  have HV := Lib.hid (fun s => mrg_one (u := u) hp.sv (s := s))
  have Hu : Hid (∀ x, x < V.length → (P ++ ([u] ++ (V ++ R))).getD (k + x) ord0 = V.getD x ord0 ∧ (V.getD x ord0).buys = sd) := Lib.hid fun x hx => ⟨by
    have := at_v P [u] V R hx
    rwa [ha, hk] at this, hp.bu _ (List.mem_append_right _ (getD_mem hx))⟩
  have Ha : Hid ((P ++ ([u] ++ (V ++ R))).getD y ord0 = u) := Lib.hid (by
    have := at_u P [u] V R (x := 0) (by simp)
    rw [ha] at this
    simpa using this)
  obtain ⟨v, hv⟩ : ∃ v, Hid (V.length = v) := ⟨_, Lib.hid rfl⟩
  have hPa := Lib.hid ha
  rw [ha] at hlen
  rw [hv.out] at hlen he HV Hu
  have hk : y + 1 = k := hk
  have hk1 := Lib.hid hk
  have he1 := Lib.hid he
  have hl1 := Lib.hid hlen
  have q1 : IntKind.i64.wrap ((k : Int) - (y : Int)) = 1 := w_sub (c := 1) hk (by omega)
  have v64 : v ≤ 64 := by omega
  have k64 : k ≤ 64 := by omega
  have y64 : y < m := by omega
  clear h hp ha hk he hlen
  obtain ⟨F, hF⟩ : ∃ F, Hid (P ++ ([u] ++ (V ++ R)) = F) := ⟨_, Lib.hid rfl⟩
  rw [hF.out] at H Hu Ha
  go_enter Try.func72, Try.ntmps72
  go_upto_region 3 with (fail)
  go_loopg [10, 11, 12] v (fun gk s10 s11 s12 wr => ∃ (s t i j : Nat), gk = t - s ∧ s ≤ t ∧ t ≤ v ∧ s10 = .int .i64 (i : Int) ∧ s11 = .int .i64 (j : Int) ∧ Hid (i = k + s ∧ j = k + t) ∧ Hid (s = 0 ∨ fst sd (V.getD (s - 1) ord0) u = true) ∧ Hid (t = v ∨ fst sd (V.getD t ord0) u = false) ∧ Hid (Sw w0 wr A m c F))
  case atStart => exact ⟨0, v, k, e, rfl, Nat.zero_le _, Nat.le_refl _, rfl, rfl, Lib.hid ⟨rfl, he1.out.symm⟩, Lib.hid (.inl rfl), Lib.hid (.inl rfl), H⟩
  case round =>
    clear H
    obtain ⟨s, t, i, j, rfl, hst, htv, rfl, rfl, hij, h1, h2, HW1⟩ := hrel
    by_cases hlt : s < t
    · obtain ⟨z, hz⟩ : ∃ z, Hid ((s + t) / 2 = z) := ⟨_, Lib.hid rfl⟩
      have hz1 : s ≤ z ∧ z < t := by have := hz.out; omega
      have hijI : (i : Int) < (j : Int) := by have := hij.out; omega
      obtain ⟨x, hxe⟩ : ∃ x, Hid (k + z = x) := ⟨_, Lib.hid rfl⟩
      have hx : x < m := by have := hxe.out; have := he1.out; have := hl1.out; have := hk1.out; omega
      have hy : y < m := y64
      obtain ⟨x', hx'⟩ : ∃ x', Hid (x + 1 = x') := ⟨_, Lib.hid rfl⟩
      have q5 := w_one hx'.out (by have := hx'.out; omega)
      have HM1 := Lib.hid (show t - (z + 1) < t - s by omega)
      have HM2 := Lib.hid (show z - s < t - s by omega)
      have HWs := HW1
      obtain ⟨p, hpv⟩ : ∃ p, Hid (V.getD z ord0 = p) := ⟨_, Lib.hid rfl⟩
      obtain ⟨q, hqv⟩ : ∃ q, Hid (u = q) := ⟨_, Lib.hid rfl⟩
      have HG : Hid (F.getD x ord0 = p ∧ F.getD y ord0 = q) := Lib.hid ⟨by rw [← hxe.out, (Hu.out z (by omega)).1, hpv.out], by rw [Ha.out, hqv.out]⟩
      have hpb : Hid (p.buys = sd) := Lib.hid (by rw [← hpv.out]; exact (Hu.out z (by omega)).2)
      obtain ⟨q2, q3, q4⟩ := w_mid (i := i) (j := j) (x := x) (by have := hij.out; have := hxe.out; have := hz.out; omega) (by have := hij.out; omega)
      go_upto_region 5 with (fail)
      rw [q4]
      clear q2 q3 q4
      obtain ⟨b, o, rfl⟩ := HW1.out.lies (by omega)
      obtain ⟨c0, c1, c2, c3, c4, c5⟩ := HW1.out.six hx
      obtain ⟨d0, d1, d2, d3, d4, d5⟩ := HW1.out.six hy
      rw [HG.out.1] at c0 c1 c2 c3 c4 c5
      rw [HG.out.2] at d0 d1 d2 d3 d4 d5
      have x1 : (0 : Int) ≤ (x : Int) := by omega
      have x2 : (x : Int) < (m : Int) := by omega
      have y1 : (0 : Int) ≤ (y : Int) := by omega
      have y2 : (y : Int) < (m : Int) := by omega
      have hAc : Hid (acmp p q < 0 ↔ fst sd p q = true) := Lib.hid (by
        have := acmp_fst p q
        rwa [hpb.out] at this)
      obtain ⟨r, hr⟩ : ∃ r, Hid (acmp p q = r) := ⟨_, Lib.hid rfl⟩
      rw [hr.out] at hAc
      have HS0 : Hid ((wr.drew.cell? ⟨b, o + x * 6, none⟩ = some (.int .i64 p.id) ∧ wr.drew.cell? ⟨b, o + x * 6 + 1, none⟩ = some (.int .i64 p.owner) ∧ wr.drew.cell? ⟨b, o + x * 6 + 2, none⟩ = some (.int .i64 p.price) ∧ wr.drew.cell? ⟨b, o + x * 6 + 3, none⟩ = some (.int .i64 p.amount) ∧ wr.drew.cell? ⟨b, o + x * 6 + 4, none⟩ = some (.int .i64 p.place) ∧ wr.drew.cell? ⟨b, o + x * 6 + 5, none⟩ = some (.bool p.buys)) ∧ (wr.drew.cell? ⟨b, o + y * 6, none⟩ = some (.int .i64 q.id) ∧ wr.drew.cell? ⟨b, o + y * 6 + 1, none⟩ = some (.int .i64 q.owner) ∧ wr.drew.cell? ⟨b, o + y * 6 + 2, none⟩ = some (.int .i64 q.price) ∧ wr.drew.cell? ⟨b, o + y * 6 + 3, none⟩ = some (.int .i64 q.amount) ∧ wr.drew.cell? ⟨b, o + y * 6 + 4, none⟩ = some (.int .i64 q.place) ∧ wr.drew.cell? ⟨b, o + y * 6 + 5, none⟩ = some (.bool q.buys)) ∧ Hid (Below wr.heap.size wr wr.drew)) := Lib.hid ⟨⟨c0, c1, c2, c3, c4, c5⟩, ⟨d0, d1, d2, d3, d4, d5⟩, Lib.hid (Below.refl _ _).drew⟩
      have HK : Hid (∀ wx, ((wx.cell? ⟨b, o + x * 6, none⟩ = some (.int .i64 p.id) ∧ wx.cell? ⟨b, o + x * 6 + 1, none⟩ = some (.int .i64 p.owner) ∧ wx.cell? ⟨b, o + x * 6 + 2, none⟩ = some (.int .i64 p.price) ∧ wx.cell? ⟨b, o + x * 6 + 3, none⟩ = some (.int .i64 p.amount) ∧ wx.cell? ⟨b, o + x * 6 + 4, none⟩ = some (.int .i64 p.place) ∧ wx.cell? ⟨b, o + x * 6 + 5, none⟩ = some (.bool p.buys)) ∧ (wx.cell? ⟨b, o + y * 6, none⟩ = some (.int .i64 q.id) ∧ wx.cell? ⟨b, o + y * 6 + 1, none⟩ = some (.int .i64 q.owner) ∧ wx.cell? ⟨b, o + y * 6 + 2, none⟩ = some (.int .i64 q.price) ∧ wx.cell? ⟨b, o + y * 6 + 3, none⟩ = some (.int .i64 q.amount) ∧ wx.cell? ⟨b, o + y * 6 + 4, none⟩ = some (.int .i64 q.place) ∧ wx.cell? ⟨b, o + y * 6 + 5, none⟩ = some (.bool q.buys)) ∧ Hid (Below wr.heap.size wr wx)) → Calls Try.prog 39 #[.agg #[.int .i64 p.id, .int .i64 p.owner, .int .i64 p.price, .int .i64 p.amount, .int .i64 p.place, .bool p.buys], .agg #[.int .i64 q.id, .int .i64 q.owner, .int .i64 q.price, .int .i64 q.amount, .int .i64 q.place, .bool q.buys]] wx fun e w' => e = .returned (.int .i64 r) ∧ ((w'.cell? ⟨b, o + x * 6, none⟩ = some (.int .i64 p.id) ∧ w'.cell? ⟨b, o + x * 6 + 1, none⟩ = some (.int .i64 p.owner) ∧ w'.cell? ⟨b, o + x * 6 + 2, none⟩ = some (.int .i64 p.price) ∧ w'.cell? ⟨b, o + x * 6 + 3, none⟩ = some (.int .i64 p.amount) ∧ w'.cell? ⟨b, o + x * 6 + 4, none⟩ = some (.int .i64 p.place) ∧ w'.cell? ⟨b, o + x * 6 + 5, none⟩ = some (.bool p.buys)) ∧ (w'.cell? ⟨b, o + y * 6, none⟩ = some (.int .i64 q.id) ∧ w'.cell? ⟨b, o + y * 6 + 1, none⟩ = some (.int .i64 q.owner) ∧ w'.cell? ⟨b, o + y * 6 + 2, none⟩ = some (.int .i64 q.price) ∧ w'.cell? ⟨b, o + y * 6 + 3, none⟩ = some (.int .i64 q.amount) ∧ w'.cell? ⟨b, o + y * 6 + 4, none⟩ = some (.int .i64 q.place) ∧ w'.cell? ⟨b, o + y * 6 + 5, none⟩ = some (.bool q.buys)) ∧ Hid (Below wr.heap.size wr w'))) := Lib.hid fun wx hs => (ahead_calls wx p q).mono (by
        rintro e w' ⟨rfl, hb⟩
        have hbw := below_next hs.2.2.out hb
        refine ⟨by rw [hr.out], ?_, ?_, Lib.hid hbw⟩
        · have := (HW1.out.below hbw).six hx
          rwa [HG.out.1] at this
        · have := (HW1.out.below hbw).six hy
          rwa [HG.out.2] at this)
      clear c0 c1 c2 c3 c4 c5 d0 d1 d2 d3 d4 d5
      go_wp2_with (fail)
      go_region_held3 (fun wx => ((wx.cell? ⟨b, o + x * 6, none⟩ = some (.int .i64 p.id) ∧ wx.cell? ⟨b, o + x * 6 + 1, none⟩ = some (.int .i64 p.owner) ∧ wx.cell? ⟨b, o + x * 6 + 2, none⟩ = some (.int .i64 p.price) ∧ wx.cell? ⟨b, o + x * 6 + 3, none⟩ = some (.int .i64 p.amount) ∧ wx.cell? ⟨b, o + x * 6 + 4, none⟩ = some (.int .i64 p.place) ∧ wx.cell? ⟨b, o + x * 6 + 5, none⟩ = some (.bool p.buys)) ∧ (wx.cell? ⟨b, o + y * 6, none⟩ = some (.int .i64 q.id) ∧ wx.cell? ⟨b, o + y * 6 + 1, none⟩ = some (.int .i64 q.owner) ∧ wx.cell? ⟨b, o + y * 6 + 2, none⟩ = some (.int .i64 q.price) ∧ wx.cell? ⟨b, o + y * 6 + 3, none⟩ = some (.int .i64 q.amount) ∧ wx.cell? ⟨b, o + y * 6 + 4, none⟩ = some (.int .i64 q.place) ∧ wx.cell? ⟨b, o + y * 6 + 5, none⟩ = some (.bool q.buys)) ∧ Hid (Below wr.heap.size wr wx)))
        (first | assumption | exact HS0.out)
        ((go_at_call 39; (with_reducible refine (HK.out _ (by assumption)).mono ?_); rintro e wn ⟨rfl, hsn⟩))
      obtain ⟨_, _, hbn⟩ := hsn
      have HWn := Lib.hid (HW1.out.below hbn.out)
      clear HS0 HK HW1 HG
      by_cases hneg : r < 0
      · have h1n : Hid (z + 1 = 0 ∨ fst sd (V.getD (z + 1 - 1) ord0) u = true) := Lib.hid (.inr (by
          rw [Nat.add_sub_cancel, hpv.out, hqv.out]; exact hAc.out.1 hneg))
        go_wp2
        go_roundg (t - (z + 1))
        case measure => exact HM1.out
        case rel => exact ⟨z + 1, t, x', j, rfl, by omega, htv, rfl, rfl, Lib.hid ⟨by have := hxe.out; have := hx'.out; omega, hij.out.2⟩, h1n, h2, HWn⟩
      · have h2n : Hid (z = v ∨ fst sd (V.getD z ord0) u = false) := Lib.hid (.inr (by
          rw [hpv.out, hqv.out]
          cases hq : fst sd p q with
          | false => rfl
          | true => exact absurd (hAc.out.2 hq) hneg))
        go_wp2
        go_roundg (z - s)
        case measure => exact HM2.out
        case rel => exact ⟨s, z, i, x, rfl, by omega, by omega, rfl, by first | rfl | go_num, Lib.hid ⟨hij.out.1, hxe.out.symm⟩, h1, h2n, HWn⟩
    · obtain rfl : s = t := by omega
      have hijI : ¬ (i : Int) < (j : Int) := by have := hij.out; omega
      obtain ⟨l, hl⟩ : ∃ l, Hid (y + s = l) := ⟨_, Lib.hid rfl⟩
      have q6 := w_less (a := i) (c := l) (by have := hij.out; have := hl.out; have := hk1.out; omega) (by have := hij.out; omega)
      have HF2 := Lib.hid (HV.out s (by omega) h1.out h2.out)
      have HW0 : Hid (Sw w0 wr A m c (P ++ ((V.take 0 ++ u :: V.drop 0) ++ R))) := Lib.hid (by
        have := HW1.out
        rw [← hF.out] at this
        exact this)
      clear HW1
      go_upto_region 9 with (fail)
      go_loopg [13] s (fun gk s13 wr => ∃ (g x : Nat), gk = s - g ∧ g ≤ s ∧ s13 = .int .i64 (x : Int) ∧ Hid (x = y + g) ∧ Hid (Sw w0 wr A m c (P ++ ((V.take g ++ u :: V.drop g) ++ R))))
      case atStart => exact ⟨0, y, rfl, Nat.zero_le _, rfl, Lib.hid rfl, HW0⟩
      case round =>
        clear HW0
        obtain ⟨g, x, rfl, hg, rfl, hxe, HW2⟩ := hrel
        by_cases hgl : g < s
        · have hlI : (x : Int) < (l : Int) := by have := hxe.out; have := hl.out; omega
          have hgv : Hid (g < V.length) := Lib.hid (by rw [hv.out]; omega)
          have hdr : Hid (V.drop g = V.getD g ord0 :: V.drop (g + 1)) := Lib.hid (by rw [List.drop_eq_getElem_cons hgv.out, List.getD_eq_getElem?_getD, List.getElem?_eq_getElem hgv.out]; rfl)
          have htk := Lib.hid (Ca.take_at V hgv.out)
          obtain ⟨q, hq⟩ : ∃ q, Hid (V.getD g ord0 = q) := ⟨_, Lib.hid rfl⟩
          rw [hq.out] at hdr htk
          obtain ⟨p, hpu⟩ : ∃ p, Hid (u = p) := ⟨_, Lib.hid rfl⟩
          obtain ⟨ya, hya⟩ : ∃ ya, Hid (y = ya) := ⟨_, Lib.hid rfl⟩
          have hxa := Lib.hid (hxe.out.trans (by rw [hya.out]))
          have hPy := Lib.hid (hPa.out.trans hya.out)
          have HW1 : Hid (Sw w0 wr A m c ((P ++ V.take g) ++ p :: q :: (V.drop (g + 1) ++ R))) := Lib.hid (by
            have := HW2.out
            rw [hdr.out, hpu.out] at this
            simpa using this)
          have hHl : Hid ((P ++ V.take g).length = x) := Lib.hid (by rw [List.length_append, List.length_take, hPa.out, hv.out, hxe.out]; omega)
          obtain ⟨y', hye⟩ : ∃ y', Hid (x + 1 = y') := ⟨_, Lib.hid rfl⟩
          have HG := Lib.hid (pair_get (P ++ V.take g) (V.drop (g + 1) ++ R) p q)
          rw [hHl.out, hye.out] at HG
          have hn : Hid (g + 1 ≤ s ∧ s - (g + 1) < s - g) := Lib.hid ⟨by omega, by omega⟩
          have hfin : Hid ((P ++ V.take g) ++ q :: p :: (V.drop (g + 1) ++ R) = P ++ ((V.take (g + 1) ++ u :: V.drop (g + 1)) ++ R)) := Lib.hid (by rw [htk.out, hpu.out]; simp)
          have hx : x < m := by have := hxe.out; have := hl1.out; omega
          have hy : y' < m := by have := hxe.out; have := hl1.out; have := hye.out; omega
          have hxy : x < y' := by have := hye.out; omega
          have q7 := w_one hye.out (by omega)
          clear HW2 hgl
          obtain ⟨b, o, rfl⟩ := HW1.out.lies (by omega)
          obtain ⟨c0, c1, c2, c3, c4, c5⟩ := HW1.out.six hx
          obtain ⟨d0, d1, d2, d3, d4, d5⟩ := HW1.out.six hy
          rw [HG.out.1] at c0 c1 c2 c3 c4 c5
          rw [HG.out.2.1] at d0 d1 d2 d3 d4 d5
          obtain ⟨t1, _⟩ := HW1.out.put hx ord0
          obtain ⟨t2, _⟩ := HW1.out.put hy ord0
          obtain ⟨f0, f1, f2, f3, f4, f5⟩ : (wr.frozen? ⟨b, o + x * 6, none⟩ = false ∧ wr.frozen? ⟨b, o + x * 6 + 1, none⟩ = false ∧ wr.frozen? ⟨b, o + x * 6 + 2, none⟩ = false ∧ wr.frozen? ⟨b, o + x * 6 + 3, none⟩ = false ∧ wr.frozen? ⟨b, o + x * 6 + 4, none⟩ = false ∧ wr.frozen? ⟨b, o + x * 6 + 5, none⟩ = false) := ⟨(t1 0 (by decide)).2, (t1 1 (by decide)).2, (t1 2 (by decide)).2, (t1 3 (by decide)).2, (t1 4 (by decide)).2, (t1 5 (by decide)).2⟩
          obtain ⟨g0, g1, g2, g3, g4, g5⟩ : (wr.frozen? ⟨b, o + y' * 6, none⟩ = false ∧ wr.frozen? ⟨b, o + y' * 6 + 1, none⟩ = false ∧ wr.frozen? ⟨b, o + y' * 6 + 2, none⟩ = false ∧ wr.frozen? ⟨b, o + y' * 6 + 3, none⟩ = false ∧ wr.frozen? ⟨b, o + y' * 6 + 4, none⟩ = false ∧ wr.frozen? ⟨b, o + y' * 6 + 5, none⟩ = false) := ⟨(t2 0 (by decide)).2, (t2 1 (by decide)).2, (t2 2 (by decide)).2, (t2 3 (by decide)).2, (t2 4 (by decide)).2, (t2 5 (by decide)).2⟩
          clear t1 t2
          have x1 : (0 : Int) ≤ (x : Int) := by omega
          have x2 : (x : Int) < (m : Int) := by omega
          have y1 : (0 : Int) ≤ (y' : Int) := by omega
          have y2 : (y' : Int) < (m : Int) := by omega
          have HZ := Lib.hid (HW1.out.swap hx hy q p)
          rw [HG.out.2.2.2, hfin.out] at HZ
          go_upto_region 11 with (fail)
          go_region
          go_wp2
          go_roundg (s - (g + 1))
          case measure => exact hn.out.2
          case rel => exact ⟨g + 1, y', rfl, hn.out.1, by first | rfl | go_num, Lib.hid (by have := hxe.out; have := hye.out; omega), Lib.hid (HZ.out.below (Below.refl _ _).drew)⟩
        · obtain rfl : g = s := by omega
          have hlI : ¬ (x : Int) < (l : Int) := by have := hxe.out; have := hl.out; omega
          go_wp2
          refine bodyPost_ret (by simp [results, Try.results72, asAddr, go_sem]; rfl) rfl ?_
          exact ⟨rfl, _, HF2.out, HW2.out⟩
end Go.Proofs.Ytilbhnloelgpdaa
