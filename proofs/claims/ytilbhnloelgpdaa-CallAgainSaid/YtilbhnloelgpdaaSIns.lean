/- insertionSortCmpFunc: a part of a row of one's own is sorted, stably. -/
import Derived.Test.YtilbhnloelgpdaaSRot
namespace Go.Proofs.Ytilbhnloelgpdaa
open Go.RowKit
set_option linter.unusedVariables false
set_option linter.unusedSimpArgs false
theorem pair_get (H T : List Ord) (p o : Ord) : (H ++ p :: o :: T).getD H.length ord0 = p ∧ (H ++ p :: o :: T).getD (H.length + 1) ord0 = o ∧ ((H ++ p :: o :: T).set (H.length + 1) p).set H.length o = H ++ o :: p :: T ∧ ((H ++ p :: o :: T).set H.length o).set (H.length + 1) p = H ++ o :: p :: T := by
  refine ⟨?_, ?_, ?_, ?_⟩ <;> simp [List.getD_eq_getElem?_getD, List.set_append]
theorem nil_or_last (U : List Ord) : U = [] ∨ ∃ U' p, U = U' ++ [p] := by
  rcases List.eq_nil_or_concat U with h | ⟨U', p, h⟩
  · exact .inl h
  · exact .inr ⟨U', p, by rw [h, List.concat_eq_append]⟩
theorem sortd_short {lt : Ord → Ord → Bool} {M : List Ord} (h : M.length ≤ 1) : Sortd lt M := by
  match M, h with
  | [], _ => exact List.Pairwise.nil
  | [x], _ => exact List.pairwise_singleton _ _
theorem ins_step {b : Bool} {S S1 U V : List Ord} {t : Nat} (h : Stab (fst b) (S.take t) S1) (ht : t < S.length) (hU : S1 = U ++ V) (h1 : ∀ x ∈ U, fst b (S.getD t ord0) x = false) (h2 : ∀ x ∈ V, fst b (S.getD t ord0) x = true) :
    Stab (fst b) (S.take (t + 1)) (U ++ S.getD t ord0 :: V) := by
  subst hU
  have h3 := stab_insert (fst_swo b) h.sorted h1 h2
  rw [Ca.take_at S ht]
  refine Stab.of_alike (fun x => ?_) (by have := h.len; simp only [List.length_append, List.length_cons, List.length_nil] at *; omega) h3
  rw [cls_append, h.alike, cls_append]
theorem ins_stop {b : Bool} {U V : List Ord} {p o : Ord} (h : Sortd (fst b) ((U ++ [p]) ++ V)) (hp : fst b o p = false) : ∀ x ∈ U ++ [p], fst b o x = false := by
  intro x hx
  obtain ⟨h1, _, _⟩ := sortd_append.1 h
  rcases List.mem_append.1 hx with hx | hx
  · exact (fst_swo b).le_trans ((sortd_append.1 h1).2.2 x hx p (by simp)) hp
  · rw [List.mem_singleton.1 hx]; exact hp
set_option maxHeartbeats 4000000 in
theorem insert_calls (w0 w : World) (A : Option Addr) (m c : Nat) (P S R : List Ord) (sd : Bool) (h : Sw w0 w A m c (P ++ (S ++ R))) (hm : m ≤ 64) (hS : ∀ o ∈ S, o.buys = sd) (a e : Nat) (ha : P.length = a) (he : a + S.length = e) :
    Calls Try.prog 71 #[.slice A m c, .int .i64 (a : Int), .int .i64 (e : Int), .func (.func 39) #[] #[]] w fun e w' => e = .returned (.tuple #[]) ∧ ∃ S', Stab (fst sd) S S' ∧ Sw w0 w' A m c (P ++ (S' ++ R)) := by
  have hlen : P.length + (S.length + R.length) = m := by have := h.len; simpa using this
  have H0 : Hid (Sw w0 w A m c (P ++ (S.take 1 ++ (S.drop 1 ++ R)))) := Lib.hid (by rw [← List.append_assoc (S.take 1), List.take_append_drop]; exact h)
  have HS1 : Hid (Stab (fst sd) (S.take 1) (S.take 1)) := Lib.hid (Stab.refl (sortd_short (by rw [List.length_take]; omega)))
  have HS := Lib.hid hS
  have HAh := Lib.hid (fun wx x y => ahead_calls wx x y)
  obtain ⟨n, hn⟩ : ∃ n, Hid (S.length = n) := ⟨_, Lib.hid rfl⟩
  have HP := Lib.hid ha
  rw [hn.out] at he hlen
  rw [ha] at hlen
  clear h hS ha
  have qs : IntKind.i64.wrap ((a : Int) + 1) = ((a + 1 : Nat) : Int) := by rw [IntKind.wrap_i64]; omega
  go_enter Try.func71, Try.ntmps71
  go_upto_region 1 with (fail)
  go_loopg [8, 9] (n + 2 - 1) (fun gk s8 s9 wr => ∃ (t i : Nat) (S1 : List Ord), gk = n + 2 - t ∧ 1 ≤ t ∧ t ≤ n + 1 ∧ s8 = .int .i64 (i : Int) ∧ Hid (i = a + t) ∧ Hid (Stab (fst sd) (S.take t) S1) ∧ Hid (Sw w0 wr A m c (P ++ (S1 ++ (S.drop t ++ R)))))
  case atStart => exact ⟨1, a + 1, S.take 1, rfl, by omega, by omega, by first | rfl | go_num, Lib.hid rfl, HS1, H0⟩
  case round =>
    obtain ⟨t, i, S1, rfl, ht1, htn, rfl, hi, HI, HW⟩ := hrel
    have hie := hi.out
    by_cases htl : t < n
    · have hieI : (i : Int) < (e : Int) := by omega
      have htL : Hid (t < S.length) := Lib.hid (by rw [hn.out]; exact htl)
      have hsl : Hid (S1.length = t) := Lib.hid (by rw [HI.out.len, List.length_take, hn.out]; omega)
      have hdr : Hid (S.drop t = S.getD t ord0 :: S.drop (t + 1)) := Lib.hid (by rw [List.drop_eq_getElem_cons htL.out, List.getD_eq_getElem?_getD, List.getElem?_eq_getElem htL.out]; rfl)
      have hos : Hid ((S.getD t ord0).buys = sd) := Lib.hid (HS.out _ (by rw [List.getD_eq_getElem?_getD, List.getElem?_eq_getElem htL.out]; exact List.getElem_mem htL.out))
      have HN := Lib.hid (fun U V => ins_step (U := U) (V := V) HI.out htL.out)
      generalize S.getD t ord0 = q at hdr hos HN
      obtain ⟨D, hD⟩ : ∃ D, Hid (S.drop (t + 1) ++ R = D) := ⟨_, Lib.hid rfl⟩
      have HW2 : Hid (Sw w0 wr A m c ((P ++ S1) ++ q :: ([] ++ D))) := Lib.hid (by
        have := HW.out
        rw [hdr.out] at this
        rw [← hD.out, List.append_assoc]; exact this)
      have HM := Lib.hid (show n + 2 - (t + 1) < n + 2 - t by omega)
      have qi : IntKind.i64.wrap ((i : Int) + 1) = ((i + 1 : Nat) : Int) := by rw [IntKind.wrap_i64]; omega
      clear HW hie
      go_wp2
      go_loopg [9] (t + 1) (fun gk s9 wi => ∃ (U V : List Ord) (y : Nat), gk = U.length + 1 ∧ s9 = .int .i64 (y : Int) ∧ Hid (y = a + U.length) ∧ Hid (S1 = U ++ V ∧ ∀ x ∈ V, fst sd q x = true) ∧ Hid (Sw w0 wi A m c ((P ++ U) ++ q :: (V ++ D))))
      case atStart => exact ⟨S1, [], i, by rw [hsl.out], rfl, Lib.hid (by rw [hsl.out]; exact hi.out), Lib.hid ⟨by rw [List.append_nil], by simp⟩, HW2⟩
      case round =>
        clear HW2
        obtain ⟨U, V, y, rfl, rfl, hye, hUV, HW⟩ := hrel
        rcases nil_or_last U with rfl | ⟨U', p, rfl⟩
        · obtain rfl : y = a := by have := hye.out; simpa using this
          have HF : Hid (Stab (fst sd) (S.take (t + 1)) (q :: V)) := Lib.hid (HN.out [] V hUV.out.1 (by simp) hUV.out.2)
          have HWf : Hid (Sw w0 wr A m c (P ++ ((q :: V) ++ (S.drop (t + 1) ++ R)))) := Lib.hid (by
            have := HW.out
            rw [← hD.out, List.append_nil] at this
            exact this)
          go_wp2_with (fail)
          go_quiet (fail)
          go_wp2
          go_roundg (n + 2 - (t + 1))
          case measure => exact HM.out
          case rel => exact ⟨t + 1, i + 1, q :: V, rfl, by omega, by omega, by first | rfl | go_num, Lib.hid (by have := hi.out; omega), HF, Lib.hid (HWf.out.below (below_self _ _))⟩
        · obtain ⟨x, hxe⟩ : ∃ x, Hid (a + U'.length = x) := ⟨_, Lib.hid rfl⟩
          have hye2' : y = x + 1 := by have h1 := hye.out; have h2 := hxe.out; simp only [List.length_append, List.length_cons, List.length_nil] at h1; omega
          have hye2 := Lib.hid hye2'
          have hHl : Hid ((P ++ U').length = x) := Lib.hid (by rw [List.length_append, HP.out]; exact hxe.out)
          have HW1 : Hid (Sw w0 wr A m c ((P ++ U') ++ p :: q :: (V ++ D))) := Lib.hid (by have := HW.out; simpa using this)
          clear HW
          have HG := Lib.hid (pair_get (P ++ U') (V ++ D) p q)
          rw [hHl.out, ← hye2'] at HG
          have hy : y < m := by
            have h1 := HW1.out.len
            have h2 := hHl.out
            rw [List.length_append, h2] at h1
            simp only [List.length_cons] at h1
            omega
          have hx : x < m := by omega
          obtain ⟨b, o, rfl⟩ := HW1.out.lies (by omega)
          have HW := HW1
          obtain ⟨c0, c1, c2, c3, c4, c5⟩ := HW.out.six hx
          obtain ⟨d0, d1, d2, d3, d4, d5⟩ := HW.out.six hy
          rw [HG.out.1] at c0 c1 c2 c3 c4 c5
          rw [HG.out.2.1] at d0 d1 d2 d3 d4 d5
          have HZ := Lib.hid fun u v => HW1.out.swap hy hx u v
          have x1 : (0 : Int) ≤ (x : Int) := by omega
          have x2 : (x : Int) < (m : Int) := by omega
          have y1 : (0 : Int) ≤ (y : Int) := by omega
          have y2 : (y : Int) < (m : Int) := by omega
          have y3 : (a : Int) < (y : Int) := by have := hxe.out; omega
          have qx : IntKind.i64.wrap ((y : Int) - 1) = (x : Int) := by rw [IntKind.wrap_i64]; omega
          have hAc := Lib.hid (acmp_fst q p)
          rw [hos.out] at hAc
          have hUp := Lib.hid (fun (hf : fst sd q p = false) => HN.out (U' ++ [p]) V hUV.out.1 (ins_stop (by have := HI.out.sorted; rw [hUV.out.1] at this; exact this) hf) hUV.out.2)
          have hVp := Lib.hid (fun (hf : fst sd q p = true) => (show S1 = U' ++ (p :: V) ∧ ∀ z ∈ p :: V, fst sd q z = true from ⟨by rw [hUV.out.1]; simp, fun z hz => by
            rcases List.mem_cons.1 hz with rfl | hz
            · exact hf
            · exact hUV.out.2 z hz⟩))
          obtain ⟨r, hr⟩ : ∃ r, Hid (acmp q p = r) := ⟨_, Lib.hid rfl⟩
          have HAw : Hid (∀ wx, Calls Try.prog 39 #[oval q, oval p] wx (Told wx (.int .i64 r))) := Lib.hid fun wx => by
            have := HAh.out wx q p
            rwa [hr.out] at this
          rw [hr.out] at hAc
          obtain ⟨pi, po, pp, pa, ppl, pb⟩ := p
          obtain ⟨qi, qo, qp, qa, qpl, qb⟩ := q
          unfold oval at HAw
          simp only at c0 c1 c2 c3 c4 c5 d0 d1 d2 d3 d4 d5 HAw
          have HS0 : Hid ((wr.drew.cell? ⟨b, o + x * 6, none⟩ = some (.int .i64 pi) ∧ wr.drew.cell? ⟨b, o + x * 6 + 1, none⟩ = some (.int .i64 po) ∧ wr.drew.cell? ⟨b, o + x * 6 + 2, none⟩ = some (.int .i64 pp) ∧ wr.drew.cell? ⟨b, o + x * 6 + 3, none⟩ = some (.int .i64 pa) ∧ wr.drew.cell? ⟨b, o + x * 6 + 4, none⟩ = some (.int .i64 ppl) ∧ wr.drew.cell? ⟨b, o + x * 6 + 5, none⟩ = some (.bool pb)) ∧ (wr.drew.cell? ⟨b, o + y * 6, none⟩ = some (.int .i64 qi) ∧ wr.drew.cell? ⟨b, o + y * 6 + 1, none⟩ = some (.int .i64 qo) ∧ wr.drew.cell? ⟨b, o + y * 6 + 2, none⟩ = some (.int .i64 qp) ∧ wr.drew.cell? ⟨b, o + y * 6 + 3, none⟩ = some (.int .i64 qa) ∧ wr.drew.cell? ⟨b, o + y * 6 + 4, none⟩ = some (.int .i64 qpl) ∧ wr.drew.cell? ⟨b, o + y * 6 + 5, none⟩ = some (.bool qb)) ∧ Hid (Below wr.heap.size wr wr.drew)) := Lib.hid ⟨⟨c0, c1, c2, c3, c4, c5⟩, ⟨d0, d1, d2, d3, d4, d5⟩, Lib.hid (Below.refl _ _).drew⟩
          have HK : Hid (∀ wx, ((wx.cell? ⟨b, o + x * 6, none⟩ = some (.int .i64 pi) ∧ wx.cell? ⟨b, o + x * 6 + 1, none⟩ = some (.int .i64 po) ∧ wx.cell? ⟨b, o + x * 6 + 2, none⟩ = some (.int .i64 pp) ∧ wx.cell? ⟨b, o + x * 6 + 3, none⟩ = some (.int .i64 pa) ∧ wx.cell? ⟨b, o + x * 6 + 4, none⟩ = some (.int .i64 ppl) ∧ wx.cell? ⟨b, o + x * 6 + 5, none⟩ = some (.bool pb)) ∧ (wx.cell? ⟨b, o + y * 6, none⟩ = some (.int .i64 qi) ∧ wx.cell? ⟨b, o + y * 6 + 1, none⟩ = some (.int .i64 qo) ∧ wx.cell? ⟨b, o + y * 6 + 2, none⟩ = some (.int .i64 qp) ∧ wx.cell? ⟨b, o + y * 6 + 3, none⟩ = some (.int .i64 qa) ∧ wx.cell? ⟨b, o + y * 6 + 4, none⟩ = some (.int .i64 qpl) ∧ wx.cell? ⟨b, o + y * 6 + 5, none⟩ = some (.bool qb)) ∧ Hid (Below wr.heap.size wr wx)) → Calls Try.prog 39 #[.agg #[.int .i64 qi, .int .i64 qo, .int .i64 qp, .int .i64 qa, .int .i64 qpl, .bool qb], .agg #[.int .i64 pi, .int .i64 po, .int .i64 pp, .int .i64 pa, .int .i64 ppl, .bool pb]] wx fun e w' => e = .returned (.int .i64 r) ∧ ((w'.cell? ⟨b, o + x * 6, none⟩ = some (.int .i64 pi) ∧ w'.cell? ⟨b, o + x * 6 + 1, none⟩ = some (.int .i64 po) ∧ w'.cell? ⟨b, o + x * 6 + 2, none⟩ = some (.int .i64 pp) ∧ w'.cell? ⟨b, o + x * 6 + 3, none⟩ = some (.int .i64 pa) ∧ w'.cell? ⟨b, o + x * 6 + 4, none⟩ = some (.int .i64 ppl) ∧ w'.cell? ⟨b, o + x * 6 + 5, none⟩ = some (.bool pb)) ∧ (w'.cell? ⟨b, o + y * 6, none⟩ = some (.int .i64 qi) ∧ w'.cell? ⟨b, o + y * 6 + 1, none⟩ = some (.int .i64 qo) ∧ w'.cell? ⟨b, o + y * 6 + 2, none⟩ = some (.int .i64 qp) ∧ w'.cell? ⟨b, o + y * 6 + 3, none⟩ = some (.int .i64 qa) ∧ w'.cell? ⟨b, o + y * 6 + 4, none⟩ = some (.int .i64 qpl) ∧ w'.cell? ⟨b, o + y * 6 + 5, none⟩ = some (.bool qb)) ∧ Hid (Below wr.heap.size wr w'))) := Lib.hid fun wx hs => (HAw.out wx).mono (by
            rintro e w' ⟨rfl, hb⟩
            have hbw := below_next hs.2.2.out hb
            refine ⟨rfl, ?_, ?_, Lib.hid hbw⟩
            · have := (HW1.out.below hbw).six hx
              rwa [HG.out.1] at this
            · have := (HW1.out.below hbw).six hy
              rwa [HG.out.2.1] at this)
          clear c0 c1 c2 c3 c4 c5 d0 d1 d2 d3 d4 d5 hye2'
          have HM2 := Lib.hid (show U'.length + 1 < (U' ++ [(⟨pi, po, pp, pa, ppl, pb⟩ : Ord)]).length + 1 by simp)
          go_wp2_with (fail)
          go_region_held3 (fun wx => ((wx.cell? ⟨b, o + x * 6, none⟩ = some (.int .i64 pi) ∧ wx.cell? ⟨b, o + x * 6 + 1, none⟩ = some (.int .i64 po) ∧ wx.cell? ⟨b, o + x * 6 + 2, none⟩ = some (.int .i64 pp) ∧ wx.cell? ⟨b, o + x * 6 + 3, none⟩ = some (.int .i64 pa) ∧ wx.cell? ⟨b, o + x * 6 + 4, none⟩ = some (.int .i64 ppl) ∧ wx.cell? ⟨b, o + x * 6 + 5, none⟩ = some (.bool pb)) ∧ (wx.cell? ⟨b, o + y * 6, none⟩ = some (.int .i64 qi) ∧ wx.cell? ⟨b, o + y * 6 + 1, none⟩ = some (.int .i64 qo) ∧ wx.cell? ⟨b, o + y * 6 + 2, none⟩ = some (.int .i64 qp) ∧ wx.cell? ⟨b, o + y * 6 + 3, none⟩ = some (.int .i64 qa) ∧ wx.cell? ⟨b, o + y * 6 + 4, none⟩ = some (.int .i64 qpl) ∧ wx.cell? ⟨b, o + y * 6 + 5, none⟩ = some (.bool qb)) ∧ Hid (Below wr.heap.size wr wx)))
            (first | assumption | exact HS0.out)
            ((go_at_call 39; (with_reducible refine (HK.out _ (by assumption)).mono ?_); rintro e wn ⟨rfl, hsn⟩))
          obtain ⟨⟨c0, c1, c2, c3, c4, c5⟩, ⟨d0, d1, d2, d3, d4, d5⟩, hbn⟩ := hsn
          have HWn := Lib.hid (HW1.out.below hbn.out)
          have hxy : x < y := by have := hye2.out; omega
          by_cases hneg : r < 0
          · have hV := Lib.hid (hVp.out (hAc.out.1 hneg))
            obtain ⟨t1, _⟩ := HWn.out.put hx ord0
            obtain ⟨t2, _⟩ := HWn.out.put hy ord0
            obtain ⟨f0, f1, f2, f3, f4, f5⟩ : (wn.frozen? ⟨b, o + x * 6, none⟩ = false ∧ wn.frozen? ⟨b, o + x * 6 + 1, none⟩ = false ∧ wn.frozen? ⟨b, o + x * 6 + 2, none⟩ = false ∧ wn.frozen? ⟨b, o + x * 6 + 3, none⟩ = false ∧ wn.frozen? ⟨b, o + x * 6 + 4, none⟩ = false ∧ wn.frozen? ⟨b, o + x * 6 + 5, none⟩ = false) := ⟨(t1 0 (by decide)).2, (t1 1 (by decide)).2, (t1 2 (by decide)).2, (t1 3 (by decide)).2, (t1 4 (by decide)).2, (t1 5 (by decide)).2⟩
            obtain ⟨g0, g1, g2, g3, g4, g5⟩ : (wn.frozen? ⟨b, o + y * 6, none⟩ = false ∧ wn.frozen? ⟨b, o + y * 6 + 1, none⟩ = false ∧ wn.frozen? ⟨b, o + y * 6 + 2, none⟩ = false ∧ wn.frozen? ⟨b, o + y * 6 + 3, none⟩ = false ∧ wn.frozen? ⟨b, o + y * 6 + 4, none⟩ = false ∧ wn.frozen? ⟨b, o + y * 6 + 5, none⟩ = false) := ⟨(t2 0 (by decide)).2, (t2 1 (by decide)).2, (t2 2 (by decide)).2, (t2 3 (by decide)).2, (t2 4 (by decide)).2, (t2 5 (by decide)).2⟩
            have HZ := Lib.hid (HWn.out.swap hy hx ⟨pi, po, pp, pa, ppl, pb⟩ ⟨qi, qo, qp, qa, qpl, qb⟩)
            rw [HG.out.2.2.1] at HZ
            clear t1 t2 HWn hVp hUp
            go_upto_region 6 with (fail)
            go_region
            go_wp2
            go_roundg (U'.length + 1)
            case measure => exact HM2.out
            case rel => exact ⟨U', ⟨pi, po, pp, pa, ppl, pb⟩ :: V, x, rfl, by first | rfl | go_num, Lib.hid hxe.out.symm, hV, Lib.hid (HZ.out.below (Below.refl _ _).drew)⟩
          · have hfp : fst sd ⟨qi, qo, qp, qa, qpl, qb⟩ ⟨pi, po, pp, pa, ppl, pb⟩ = false := by
              cases hq : fst sd ⟨qi, qo, qp, qa, qpl, qb⟩ ⟨pi, po, pp, pa, ppl, pb⟩ with
              | false => rfl
              | true => exact absurd (hAc.out.2 hq) hneg
            have HF := Lib.hid (hUp.out hfp)
            clear hfp
            have HWf : Hid (Sw w0 wn (some ⟨b, o, none⟩) m c (P ++ (((U' ++ [(⟨pi, po, pp, pa, ppl, pb⟩ : Ord)]) ++ ⟨qi, qo, qp, qa, qpl, qb⟩ :: V) ++ (S.drop (t + 1) ++ R)))) := Lib.hid (by
              have := HWn.out
              rw [← hD.out] at this
              simpa using this)
            clear HWn hVp hUp
            go_wp2
            go_roundg (n + 2 - (t + 1))
            case measure => exact HM.out
            case rel => exact ⟨t + 1, i + 1, _, rfl, by omega, by omega, by first | rfl | go_num, Lib.hid (by have := hi.out; omega), HF, HWf⟩
    · have HF : Hid (Stab (fst sd) S S1) := Lib.hid (by
        have := HI.out
        rw [List.take_of_length_le (by rw [hn.out]; omega)] at this
        exact this)
      have HWf : Hid (Sw w0 wr A m c (P ++ (S1 ++ R))) := Lib.hid (by
        have := HW.out
        rw [List.drop_of_length_le (by rw [hn.out]; omega), List.nil_append] at this
        exact this)
      have hieI : ¬ (i : Int) < (e : Int) := by omega
      clear HI HW hie
      go_wp2
      go_end0
      exact ⟨rfl, S1, HF.out, HWf.out⟩
end Go.Proofs.Ytilbhnloelgpdaa
