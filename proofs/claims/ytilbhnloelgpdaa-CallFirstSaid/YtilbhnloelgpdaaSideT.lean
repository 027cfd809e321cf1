/- How much of one side was filled: the law's side. -/
import Derived.Test.YtilbhnloelgpdaaBal
import Derived.Test.YtilbhnloelgpdaaBegun
namespace Go.Proofs.Ytilbhnloelgpdaa
open Go.RowKit
set_option linter.unusedVariables false
set_option linter.unusedSimpArgs false
namespace Ca
def inS (W : List Ord) (f : Fil) (sd : Bool) (k : Nat) : Int := ((W.take k).map fun o => if o.id = f.id ∧ o.buys = sd then f.amount else 0).sum
def sdTo (W : List Ord) (F : List Fil) (sd : Bool) (i : Nat) : Int := ((F.take i).map fun f => inS W f sd W.length).sum
theorem inS_next (W : List Ord) (f : Fil) (sd : Bool) {k : Nat} (h : k < W.length) : inS W f sd (k + 1) = inS W f sd k + (if (W.getD k ord0).id = f.id ∧ (W.getD k ord0).buys = sd then f.amount else 0) := by
  unfold inS
  rw [take_at W h, List.map_append, List.sum_append]
  simp
theorem sdTo_next (W : List Ord) (F : List Fil) (sd : Bool) {i : Nat} (h : i < F.length) : sdTo W F sd (i + 1) = sdTo W F sd i + inS W (F.getD i fil0) sd W.length := by
  unfold sdTo
  rw [List.take_succ_eq_append_getElem h, List.map_append, List.sum_append, List.getD_eq_getElem?_getD, List.getElem?_eq_getElem h]
  simp
theorem inS_bound (W : List Ord) {f : Fil} (hf : 0 ≤ f.amount ∧ f.amount ≤ 1048576) (sd : Bool) : ∀ k : Nat, 0 ≤ inS W f sd k ∧ inS W f sd k ≤ 1048576 * k
  | 0 => by simp [inS]
  | k + 1 => by
    have ih := inS_bound W hf sd k
    by_cases h : k < W.length
    · rw [inS_next W f sd h]
      push_cast
      split <;> omega
    · have e : inS W f sd (k + 1) = inS W f sd k := by
        unfold inS
        rw [List.take_of_length_le (by omega), List.take_of_length_le (by omega)]
      rw [e]; push_cast; omega
theorem sdTo_bound {W : List Ord} (hW : W.length ≤ 64) {F : List Fil} (hF : ∀ f ∈ F, 0 ≤ f.amount ∧ f.amount ≤ 1048576) (sd : Bool) : ∀ i : Nat, 0 ≤ sdTo W F sd i ∧ sdTo W F sd i ≤ 67108864 * i
  | 0 => by simp [sdTo]
  | i + 1 => by
    have ih := sdTo_bound hW hF sd i
    by_cases h : i < F.length
    · rw [sdTo_next W F sd h]
      have hm : F.getD i fil0 ∈ F := by rw [List.getD_eq_getElem?_getD, List.getElem?_eq_getElem h]; exact List.getElem_mem h
      have := inS_bound W (hF _ hm) sd W.length
      push_cast
      omega
    · have e : sdTo W F sd (i + 1) = sdTo W F sd i := by
        unfold sdTo
        rw [List.take_of_length_le (by omega), List.take_of_length_le (by omega)]
      rw [e]; push_cast; omega
theorem in_one : ∀ {W : List Ord} (hp : W.Pairwise fun x y => x.id ≠ y.id) {f : Fil} {o : Ord} (ho : o ∈ W) (e : f.id = o.id) (sd : Bool), (W.map fun q => if q.id = f.id ∧ q.buys = sd then f.amount else 0).sum = if o.buys = sd then f.amount else 0
  | [], _, f, o, ho, _, _ => by cases ho
  | q :: W, hp, f, o, ho, e, sd => by
    obtain ⟨p1, p2⟩ := List.pairwise_cons.1 hp
    rw [List.map_cons, List.sum_cons]
    rcases List.mem_cons.1 ho with rfl | ho
    · have hz : (W.map fun q => if q.id = f.id ∧ q.buys = sd then f.amount else 0).sum = 0 := by
        have : ∀ (M : List Ord), (∀ x ∈ M, o.id ≠ x.id) → (M.map fun q => if q.id = f.id ∧ q.buys = sd then f.amount else 0).sum = 0 := fun M => by
          induction M with
          | nil => intro _; rfl
          | cons z M ih =>
            intro hM
            rw [List.map_cons, List.sum_cons, ih fun x hx => hM x (List.mem_cons_of_mem _ hx), if_neg fun hh => hM z (List.mem_cons_self ..) (by rw [← e, hh.1])]; rfl
        exact this W p1
      rw [hz]
      by_cases hb : o.buys = sd
      · rw [if_pos ⟨e.symm, hb⟩, if_pos hb]; omega
      · rw [if_neg fun hh => hb hh.2, if_neg hb]; omega
    · rw [if_neg fun hh => p1 o ho (by rw [hh.1, e]), in_one p2 ho e sd]; omega
theorem sum_part {W : List Ord} (hp : W.Pairwise fun x y => x.id ≠ y.id) (s sd : Bool) : ∀ (G : List Fil), (∀ f ∈ G, ∃ o ∈ W, f.id = o.id ∧ o.buys = s) → (G.map fun f => inS W f sd W.length).sum = if s = sd then ftot G else 0
  | [], _ => by simp [ftot]
  | f :: G, h => by
    obtain ⟨o, h1, h2, h3⟩ := h f (List.mem_cons_self ..)
    rw [List.map_cons, List.sum_cons, sum_part hp s sd G fun g hg => h g (List.mem_cons_of_mem _ hg), ftot_cons]
    have : inS W f sd W.length = if o.buys = sd then f.amount else 0 := by
      unfold inS
      rw [List.take_length]; exact in_one hp h1 h2 sd
    rw [this, h3]
    split <;> omega
end Ca
theorem Bk.sides {b : Bk} (h : b.Ok) (sd : Bool) : Ca.sdTo b.l b.clear.2.2 sd b.clear.2.2.length = b.clear.2.1.2 := by
  show Ca.sdTo b.l (Ca.fills b.l (Ca.cross b.l).1 (Ca.cross b.l).2) sd (Ca.fills b.l (Ca.cross b.l).1 (Ca.cross b.l).2).length = (Ca.cross b.l).2
  unfold Ca.sdTo
  rw [List.take_length]
  have key := fun s => Ca.sum_part (W := b.l) h.ids s sd (Ca.fillGo (Ca.cross b.l).2 (isort s (Ca.sideOf s (Ca.cross b.l).1 b.l))) fun f hf => by
    obtain ⟨o, h1, h2, _⟩ := Ca.fillGo_mem _ _ hf
    obtain ⟨m1, m2, _⟩ := (Bk.side_facts h s _).1 o h1
    exact ⟨o, m1, h2, (Bk.good_buys h m2).1⟩
  unfold Ca.fills
  rw [Bk.rights_all h, List.map_append, List.sum_append, key true, key false, Bk.side_total h, Bk.side_total h]
  cases sd <;> simp
set_option maxHeartbeats 4000000 in
theorem side_calls (w : World) (A B : Option Addr) (L : List Ord) (F : List Fil) (c d : Nat) (hA : ORow w A L) (hB : FRow w B F) (hl : L.length ≤ 64) (hf : F.length ≤ 128) (hF : ∀ f ∈ F, 0 ≤ f.amount ∧ f.amount ≤ 1048576) (sd : Bool) :
    Calls Try.prog 25 #[.slice A L.length c, .slice B F.length d, .bool sd] w (Told w (.int .i64 (Ca.sdTo L F sd F.length))) := by
  have HA := Lib.hid hA
  have HB := Lib.hid hB
  have HBd := Lib.hid (Ca.sdTo_bound hl hF sd)
  have HIn := Lib.hid (fun f hf => Ca.inS_bound L (hF f hf) sd)
  obtain ⟨m, hm⟩ : ∃ m, Hid (L.length = m) := ⟨_, Lib.hid rfl⟩
  obtain ⟨n, hn⟩ : ∃ n, Hid (F.length = n) := ⟨_, Lib.hid rfl⟩
  have hz : Ca.sdTo L F sd 0 = 0 := rfl
  have Hz := Lib.hid hz
  rw [hm.out] at hl ⊢
  rw [hn.out] at hf ⊢
  clear hA hB hF hz
  go_enter Try.func25, Try.ntmps25
  go_upto_region 3 with (fail)
  go_loopg [7, 8] (n + 1) (fun gk s7 s8 wr => ∃ i : Nat, gk = n + 1 - i ∧ i ≤ n ∧ s8 = .int .i64 (i : Int) ∧ s7 = .int .i64 (Ca.sdTo L F sd i) ∧ Hid (Below w.heap.size w wr))
  case atStart => exact ⟨0, rfl, Nat.zero_le _, rfl, by rw [Hz.out], Lib.hid (Below.refl _ _)⟩
  case round =>
    obtain ⟨wo, hwo⟩ : ∃ wo, wo = wr := ⟨_, rfl⟩
    subst hwo
    obtain ⟨i, rfl, hi, rfl, rfl, hb⟩ := hrel
    have i0 : (0 : Int) ≤ (i : Int) := by omega
    by_cases hil : i < n
    · have hiI : (i : Int) < (n : Int) := by omega
      have hiL : Hid (i < F.length) := Lib.hid (by rw [hn.out]; exact hil)
      have hNs := Lib.hid (Ca.sdTo_next L F sd hiL.out)
      have hbd := Lib.hid (HBd.out i)
      obtain ⟨fb, fo, rfl⟩ : ∃ b o, B = some ⟨b, o, none⟩ := by
        obtain ⟨b, o, e, _⟩ := HB.out.cells hiL.out
        exact ⟨b, o, e⟩
      have HC := Lib.hid (fun wx hh => FRow.three HB.out hiL.out (w' := wx) hh)
      have hInF := Lib.hid (HIn.out (F.getD i fil0) (by rw [List.getD_eq_getElem?_getD, List.getElem?_eq_getElem hiL.out]; exact List.getElem_mem hiL.out))
      have HMo := Lib.hid (show n + 1 - (i + 1) < n + 1 - i by omega)
      have hNx := Lib.hid (fun k hk => Ca.inS_next L (F.getD i fil0) sd (k := k) hk)
      have hzi : Hid (Ca.inS L (F.getD i fil0) sd 0 = 0) := Lib.hid rfl
      generalize F.getD i fil0 = f at HC hInF hNs hNx hzi
      obtain ⟨fi, fw, fa⟩ := f
      simp only at HC
      generalize Ca.sdTo L F sd i = S at hbd hNs ⊢
      rw [hm.out] at hNs
      go_upto_region 6 with (fail)
      go_loopg [7, 9] (m + 1) (fun gk s7 s9 wr => ∃ k : Nat, gk = m + 1 - k ∧ k ≤ m ∧ s9 = .int .i64 (k : Int) ∧ s7 = .int .i64 (S + Ca.inS L ⟨fi, fw, fa⟩ sd k) ∧ Hid (Below w.heap.size w wr))
      case atStart => exact ⟨0, rfl, Nat.zero_le _, rfl, by rw [hzi.out, Int.add_zero], hb⟩
      case round =>
        clear hb
        obtain ⟨k, rfl, hk, rfl, rfl, hb⟩ := hrel
        have k0 : (0 : Int) ≤ (k : Int) := by omega
        by_cases hkl : k < m
        · have hkI : (k : Int) < (m : Int) := by omega
          have hkL : Hid (k < L.length) := Lib.hid (by rw [hm.out]; exact hkl)
          obtain ⟨b, o, rfl⟩ : ∃ b o, A = some ⟨b, o, none⟩ := by
            obtain ⟨b, o, e, _⟩ := HA.out.cells hkL.out
            exact ⟨b, o, e⟩
          obtain ⟨c0, c1, c2, c3, c4, c5⟩ := ORow.six HA.out hkL.out hb.out
          obtain ⟨d0, d1, d2⟩ := HC.out wr hb.out
          have hN := Lib.hid (hNx.out k hkL.out)
          generalize L.getD k ord0 = q at c0 c1 c2 c3 c4 c5 hN
          obtain ⟨qi, qo, qp, qa, qpl, qb⟩ := q
          simp only at c0 c1 c2 c3 c4 c5
          have hbk := hInF.out k
          have hbk1 := hInF.out (k + 1)
          have hbS := hbd.out
          have HM := Lib.hid (show m + 1 - (k + 1) < m + 1 - k by omega)
          generalize Ca.inS L ⟨fi, fw, fa⟩ sd k = I at hN hbk ⊢
          clear c1 c2 c3 c4 d1
          by_cases hid : qi = fi
          · subst hid
            have hid1 : (qi == qi) = true := by simp
            by_cases hqb : qb = sd
            · subst hqb
              have hqb1 : (qb == qb) = true := by simp
              have hN' := hN.out
              rw [if_pos ⟨rfl, rfl⟩] at hN'
              have qs : IntKind.i64.wrap (S + I + fa) = S + I + fa := by
                have e : Ca.inS L ⟨qi, fw, fa⟩ qb (k + 1) = I + fa := hN'
                rw [e] at hbk1
                rw [IntKind.wrap_i64]; omega
              have HN : Hid (S + Ca.inS L ⟨qi, fw, fa⟩ qb (k + 1) = S + I + fa) := Lib.hid (by rw [hN']; show S + (I + fa) = _; omega)
              clear hN hN' hbk hbk1 hbS
              go_wp2_with (fail)
              go_quiet (fail)
              go_wp2
              go_roundg (m + 1 - (k + 1))
              case measure => exact HM.out
              case rel => exact ⟨k + 1, rfl, by omega, by first | rfl | go_num, by rw [HN.out], Lib.hid (below_draw hb.out _)⟩
            · have hqb1 : (qb == sd) = false := by simpa using hqb
              have hN' := hN.out
              rw [if_neg fun hh => hqb hh.2] at hN'
              have HN : Hid (S + Ca.inS L ⟨qi, fw, fa⟩ sd (k + 1) = S + I) := Lib.hid (by rw [hN']; omega)
              clear hN hN' hbk hbk1 hbS hqb
              go_wp2_with (fail)
              go_quiet (fail)
              go_wp2
              go_roundg (m + 1 - (k + 1))
              case measure => exact HM.out
              case rel => exact ⟨k + 1, rfl, by omega, by first | rfl | go_num, by rw [HN.out], Lib.hid (below_draw hb.out _)⟩
          · have hid1 : (qi == fi) = false := by simpa using hid
            have hN' := hN.out
            rw [if_neg fun hh => hid hh.1] at hN'
            have HN : Hid (S + Ca.inS L ⟨fi, fw, fa⟩ sd (k + 1) = S + I) := Lib.hid (by rw [hN']; omega)
            clear hN hN' hbk hbk1 hbS hid
            go_wp2_with (fail)
            go_quiet (fail)
            go_wp2
            go_roundg (m + 1 - (k + 1))
            case measure => exact HM.out
            case rel => exact ⟨k + 1, rfl, by omega, by first | rfl | go_num, by rw [HN.out], Lib.hid (below_draw hb.out _)⟩
        · obtain rfl : m = k := by omega
          go_wp2
          go_roundg (n + 1 - (i + 1))
          case measure => exact HMo.out
          case rel => exact ⟨i + 1, rfl, by omega, by first | rfl | go_num, by rw [hNs.out], hb⟩
    · obtain rfl : n = i := by omega
      go_wp2
      refine bodyPost_ret (by simp [results, Try.results25, asAddr, go_sem]; rfl) rfl ?_
      exact ⟨rfl, hb.out⟩
end Go.Proofs.Ytilbhnloelgpdaa
