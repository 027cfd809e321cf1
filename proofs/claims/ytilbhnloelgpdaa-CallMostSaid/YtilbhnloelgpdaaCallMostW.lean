/- The walk of CallMost: no price trades more than is told, each lower one less. -/
import Derived.Test.YtilbhnloelgpdaaOrdr
namespace Go.Proofs.Ytilbhnloelgpdaa
open Go.RowKit
set_option linter.unusedVariables false
set_option linter.unusedSimpArgs false
theorem Ca.cross_price (l : List Ord) : 0 ≤ (Ca.cross l).1 ∧ (Ca.cross l).1 ≤ 1099511627776 := by
  rcases Ca.cross_zero l with h | h
  · obtain ⟨o, ho, h2, _⟩ := (Ca.cross_best (Ca.rights l)).own h
    have hr : o.right = true := by
      unfold Ca.rights at ho
      split at ho
      · cases ho
      · exact (List.mem_filter.1 ho).2
    have := (Ord.right_iff o).1 hr
    have e : (Ca.cross l).1 = o.price := h2.symm
    omega
  · omega
theorem Ca.rights_few_eq {l : List Ord} (h : l.length ≤ 64) : Ca.rights l = l.filter Ord.right := by unfold Ca.rights; rw [if_neg (by omega)]
set_option maxHeartbeats 16000000 in
set_option maxRecDepth 100000 in
theorem CallMost_walk (W : World) (A : Option Addr) (len0 c : Nat) (L0 : List Ord) (hlen0 : L0.length = len0) (hcap : len0 ≤ c) (h0 : ORow W A L0) (price : Int) (hpw : (Lit.int .i64 price).wf = true) :
    Calls Try.prog 4 #[.slice A len0 c, .int .i64 price] W fun e w' => e = .returned (.bool true) ∧ Below W.heap.size W w' := by
  clear hpw
  by_cases hlong : 64 < len0
  · obtain ⟨L, hl64', h⟩ : ∃ L : List Ord, L.length = 64 ∧ ORow W A L := ⟨L0.take 64, by rw [List.length_take]; omega, h0.take 64⟩
    have hle : L.length ≤ 64 := by omega
    have hlI : (64 : Int) < (len0 : Int) := by omega
    have hcI : (64 : Int) ≤ (c : Int) := by omega
    have hcN : 64 ≤ c := by omega
    clear h0 hlen0
    have HCr := Lib.hid (fun wx (hb : Below W.heap.size W wx) => cross_calls wx A L c (h.below hb))
    have HTr : Hid (∀ wx, Below W.heap.size W wx → ∀ p, Calls Try.prog 21 #[.slice A L.length c, .int .i64 p] wx (Told wx (.int .i64 (Ca.traded (Ca.rights L) p)))) := Lib.hid fun wx hb p => by
      have := rtraded_calls wx A L c p (h.below hb) hle
      rwa [← Ca.rights_few_eq hle] at this
    have hmost := Lib.hid (Ca.cross_most L)
    have hless := Lib.hid (Ca.cross_less L)
    have hat := Lib.hid (Ca.cross_at L)
    have hzero := Lib.hid (Ca.cross_zero L)
    have hrg := Ca.cross_range L
    have hpr := Ca.cross_price L
    have H := Lib.hid h
    have HAw := Lib.hid (fun wx => awake_calls wx)
    generalize (Ca.cross L).1 = P at HCr hless hat hzero hpr
    generalize (Ca.cross L).2 = N at HCr hmost hless hat hzero hrg
    generalize Ca.rights L = R at HTr hmost hless hat
    obtain ⟨len, hlen⟩ : ∃ len, Hid (L.length = len) := ⟨_, Lib.hid rfl⟩
    rw [hlen.out] at HCr HTr hle
    have HK : Hid (∀ p wx, Hid (Below W.heap.size W wx) → Calls Try.prog 21 #[.slice A len c, .int .i64 p] wx fun e w' => e = .returned (.int .i64 (Ca.traded R p)) ∧ Hid (Below W.heap.size W w')) := Lib.hid fun p wx hb => (HTr.out wx hb.out p).mono fun e w' ⟨h1, h2⟩ => ⟨h1, Lib.hid (below_next hb.out h2)⟩
    have hbW : Hid (Below W.heap.size W W) := Lib.hid (Below.refl _ _)
    have qP : IntKind.i64.wrap (P - 1) = P - 1 := by rw [IntKind.wrap_i64]; omega
    clear h HTr
    have hl64 : Hid (len = 64) := Lib.hid (hlen.out.symm.trans hl64')
    clear hl64'
    obtain ⟨t1, ht1'⟩ : ∃ t, Hid (Ca.traded R price = t) := ⟨_, Lib.hid rfl⟩
    have ht1 : ¬ N < t1 := by have := hmost.out price; rw [ht1'.out] at this; omega
    have H1 : Hid (∀ wx, Hid (Below W.heap.size W wx) → Calls Try.prog 21 #[.slice A len c, .int .i64 price] wx fun e w' => e = .returned (.int .i64 t1) ∧ Hid (Below W.heap.size W w')) := Lib.hid fun wx hb => by
      have := HK.out price wx hb
      rwa [ht1'.out] at this
    by_cases hN : 0 < N
    · have H2 : Hid (∀ wx, Hid (Below W.heap.size W wx) → Calls Try.prog 21 #[.slice A len c, .int .i64 P] wx fun e w' => e = .returned (.int .i64 N) ∧ Hid (Below W.heap.size W w')) := Lib.hid fun wx hb => by
        have := HK.out P wx hb
        rwa [hat.out hN] at this
      obtain ⟨t3, ht3'⟩ : ∃ t, Hid (Ca.traded R (P - 1) = t) := ⟨_, Lib.hid rfl⟩
      have ht3 : ¬ N ≤ t3 := by have := hless.out (P - 1) hN (by omega); rw [ht3'.out] at this; omega
      have H3 : Hid (∀ wx, Hid (Below W.heap.size W wx) → Calls Try.prog 21 #[.slice A len c, .int .i64 (P - 1)] wx fun e w' => e = .returned (.int .i64 t3) ∧ Hid (Below W.heap.size W w')) := Lib.hid fun wx hb => by
        have := HK.out (P - 1) wx hb
        rwa [ht3'.out] at this
      have hNN : (N != N) = false := by simp
      by_cases hlt : price < P
      · have ht2 : ¬ N ≤ t1 := by have := hless.out price hN hlt; rw [ht1'.out] at this; omega
        go_enter Try.func4, Try.ntmps4
        go_upto_region 3 with (fail)
        rw [show (Value.slice A 64 c) = Value.slice A len c from by rw [hl64.out]]
        go_upto_region 4 with (go_at_call 14; (with_reducible refine (HCr.out _ hbW.out).mono ?_); rintro e w1 ⟨rfl, hh⟩; have hsn := Lib.hid hh; clear hh)
        go_upto_region 7 with
          (go_at_call 21; first
            | ((with_reducible refine (H1.out _ (by assumption)).mono ?_); rintro e wn ⟨rfl, hsn⟩)
            | ((with_reducible refine (H2.out _ (by assumption)).mono ?_); rintro e wn ⟨rfl, hsn⟩)
            | ((with_reducible refine (H3.out _ (by assumption)).mono ?_); rintro e wn ⟨rfl, hsn⟩))
        clear H1 ht2 ht1
        go_loopg [7] (len + 1) (fun gk s7 wr => ∃ i : Nat, gk = len + 1 - i ∧ i ≤ len ∧ s7 = .int .i64 (i : Int) ∧ Hid (Below W.heap.size W wr))
        case atStart => exact ⟨0, rfl, Nat.zero_le _, rfl, by assumption⟩
        case round =>
          clear hsn
          obtain ⟨i, rfl, hi, rfl, hb⟩ := hrel
          have i0 : (0 : Int) ≤ (i : Int) := by omega
          by_cases hil : i < len
          · have hiI : (i : Int) < (len : Int) := by omega
            have hiL : Hid (i < L.length) := Lib.hid (by rw [hlen.out]; exact hil)
            obtain ⟨b, o, rfl⟩ : ∃ b o, A = some ⟨b, o, none⟩ := by
              obtain ⟨b, o, e, _⟩ := H.out.cells hiL.out
              exact ⟨b, o, e⟩
            have c2 := (ORow.six H.out hiL.out hb.out).2.2.1
            generalize (L.getD i ord0).price = qp at c2
            have HM := Lib.hid (show len + 1 - (i + 1) < len + 1 - i by omega)
            obtain ⟨t, ht⟩ : ∃ t, Hid (Ca.traded R qp = t) := ⟨_, Lib.hid rfl⟩
            have ht1 : ¬ N < t := by have := hmost.out qp; rw [ht.out] at this; omega
            by_cases hq : qp < P
            · have ht2 : t < N := by have := hless.out qp hN hq; rw [ht.out] at this; exact this
              by_cases hP : 0 < P
              ·
                have H1 := Lib.hid (HK.out qp)
                rw [ht.out] at H1
                go_wp2_with
                  (go_at_call 21; first
                    | ((with_reducible refine (H1.out _ (by assumption)).mono ?_); rintro e wn ⟨rfl, hsn⟩)
                    | ((with_reducible refine (H2.out _ (by assumption)).mono ?_); rintro e wn ⟨rfl, hsn⟩)
                    | ((with_reducible refine (H3.out _ (by assumption)).mono ?_); rintro e wn ⟨rfl, hsn⟩))
                go_roundg (len + 1 - (i + 1))
                case measure => exact HM.out
                case rel => exact ⟨i + 1, rfl, by omega, by first | rfl | go_num, by assumption⟩
              ·
                have H1 := Lib.hid (HK.out qp)
                rw [ht.out] at H1
                go_wp2_with
                  (go_at_call 21; first
                    | ((with_reducible refine (H1.out _ (by assumption)).mono ?_); rintro e wn ⟨rfl, hsn⟩)
                    | ((with_reducible refine (H2.out _ (by assumption)).mono ?_); rintro e wn ⟨rfl, hsn⟩)
                    | ((with_reducible refine (H3.out _ (by assumption)).mono ?_); rintro e wn ⟨rfl, hsn⟩))
                go_roundg (len + 1 - (i + 1))
                case measure => exact HM.out
                case rel => exact ⟨i + 1, rfl, by omega, by first | rfl | go_num, by assumption⟩
            · by_cases hP : 0 < P
              ·
                have H1 := Lib.hid (HK.out qp)
                rw [ht.out] at H1
                go_wp2_with
                  (go_at_call 21; first
                    | ((with_reducible refine (H1.out _ (by assumption)).mono ?_); rintro e wn ⟨rfl, hsn⟩)
                    | ((with_reducible refine (H2.out _ (by assumption)).mono ?_); rintro e wn ⟨rfl, hsn⟩)
                    | ((with_reducible refine (H3.out _ (by assumption)).mono ?_); rintro e wn ⟨rfl, hsn⟩))
                go_roundg (len + 1 - (i + 1))
                case measure => exact HM.out
                case rel => exact ⟨i + 1, rfl, by omega, by first | rfl | go_num, by assumption⟩
              ·
                have H1 := Lib.hid (HK.out qp)
                rw [ht.out] at H1
                go_wp2_with
                  (go_at_call 21; first
                    | ((with_reducible refine (H1.out _ (by assumption)).mono ?_); rintro e wn ⟨rfl, hsn⟩)
                    | ((with_reducible refine (H2.out _ (by assumption)).mono ?_); rintro e wn ⟨rfl, hsn⟩)
                    | ((with_reducible refine (H3.out _ (by assumption)).mono ?_); rintro e wn ⟨rfl, hsn⟩))
                go_roundg (len + 1 - (i + 1))
                case measure => exact HM.out
                case rel => exact ⟨i + 1, rfl, by omega, by first | rfl | go_num, by assumption⟩
          · have hiI : ¬ (i : Int) < (len : Int) := by omega
            go_wp2_with (go_at_call 20; (with_reducible refine (HAw.out _).mono ?_); rintro e w6 ⟨rfl, hh⟩; have hb6 := Lib.hid (below_next hb.out hh); clear hh)
            refine bodyPost_ret (by simp [results, Try.results4, asAddr, go_sem]; rfl) rfl ?_
            exact ⟨rfl, hb6.out⟩
      ·
        go_enter Try.func4, Try.ntmps4
        go_upto_region 3 with (fail)
        rw [show (Value.slice A 64 c) = Value.slice A len c from by rw [hl64.out]]
        go_upto_region 4 with (go_at_call 14; (with_reducible refine (HCr.out _ hbW.out).mono ?_); rintro e w1 ⟨rfl, hh⟩; have hsn := Lib.hid hh; clear hh)
        go_upto_region 7 with
          (go_at_call 21; first
            | ((with_reducible refine (H1.out _ (by assumption)).mono ?_); rintro e wn ⟨rfl, hsn⟩)
            | ((with_reducible refine (H2.out _ (by assumption)).mono ?_); rintro e wn ⟨rfl, hsn⟩)
            | ((with_reducible refine (H3.out _ (by assumption)).mono ?_); rintro e wn ⟨rfl, hsn⟩))
        clear H1 ht1
        go_loopg [7] (len + 1) (fun gk s7 wr => ∃ i : Nat, gk = len + 1 - i ∧ i ≤ len ∧ s7 = .int .i64 (i : Int) ∧ Hid (Below W.heap.size W wr))
        case atStart => exact ⟨0, rfl, Nat.zero_le _, rfl, by assumption⟩
        case round =>
          clear hsn
          obtain ⟨i, rfl, hi, rfl, hb⟩ := hrel
          have i0 : (0 : Int) ≤ (i : Int) := by omega
          by_cases hil : i < len
          · have hiI : (i : Int) < (len : Int) := by omega
            have hiL : Hid (i < L.length) := Lib.hid (by rw [hlen.out]; exact hil)
            obtain ⟨b, o, rfl⟩ : ∃ b o, A = some ⟨b, o, none⟩ := by
              obtain ⟨b, o, e, _⟩ := H.out.cells hiL.out
              exact ⟨b, o, e⟩
            have c2 := (ORow.six H.out hiL.out hb.out).2.2.1
            generalize (L.getD i ord0).price = qp at c2
            have HM := Lib.hid (show len + 1 - (i + 1) < len + 1 - i by omega)
            obtain ⟨t, ht⟩ : ∃ t, Hid (Ca.traded R qp = t) := ⟨_, Lib.hid rfl⟩
            have ht1 : ¬ N < t := by have := hmost.out qp; rw [ht.out] at this; omega
            by_cases hq : qp < P
            · have ht2 : t < N := by have := hless.out qp hN hq; rw [ht.out] at this; exact this
              by_cases hP : 0 < P
              ·
                have H1 := Lib.hid (HK.out qp)
                rw [ht.out] at H1
                go_wp2_with
                  (go_at_call 21; first
                    | ((with_reducible refine (H1.out _ (by assumption)).mono ?_); rintro e wn ⟨rfl, hsn⟩)
                    | ((with_reducible refine (H2.out _ (by assumption)).mono ?_); rintro e wn ⟨rfl, hsn⟩)
                    | ((with_reducible refine (H3.out _ (by assumption)).mono ?_); rintro e wn ⟨rfl, hsn⟩))
                go_roundg (len + 1 - (i + 1))
                case measure => exact HM.out
                case rel => exact ⟨i + 1, rfl, by omega, by first | rfl | go_num, by assumption⟩
              ·
                have H1 := Lib.hid (HK.out qp)
                rw [ht.out] at H1
                go_wp2_with
                  (go_at_call 21; first
                    | ((with_reducible refine (H1.out _ (by assumption)).mono ?_); rintro e wn ⟨rfl, hsn⟩)
                    | ((with_reducible refine (H2.out _ (by assumption)).mono ?_); rintro e wn ⟨rfl, hsn⟩)
                    | ((with_reducible refine (H3.out _ (by assumption)).mono ?_); rintro e wn ⟨rfl, hsn⟩))
                go_roundg (len + 1 - (i + 1))
                case measure => exact HM.out
                case rel => exact ⟨i + 1, rfl, by omega, by first | rfl | go_num, by assumption⟩
            · by_cases hP : 0 < P
              ·
                have H1 := Lib.hid (HK.out qp)
                rw [ht.out] at H1
                go_wp2_with
                  (go_at_call 21; first
                    | ((with_reducible refine (H1.out _ (by assumption)).mono ?_); rintro e wn ⟨rfl, hsn⟩)
                    | ((with_reducible refine (H2.out _ (by assumption)).mono ?_); rintro e wn ⟨rfl, hsn⟩)
                    | ((with_reducible refine (H3.out _ (by assumption)).mono ?_); rintro e wn ⟨rfl, hsn⟩))
                go_roundg (len + 1 - (i + 1))
                case measure => exact HM.out
                case rel => exact ⟨i + 1, rfl, by omega, by first | rfl | go_num, by assumption⟩
              ·
                have H1 := Lib.hid (HK.out qp)
                rw [ht.out] at H1
                go_wp2_with
                  (go_at_call 21; first
                    | ((with_reducible refine (H1.out _ (by assumption)).mono ?_); rintro e wn ⟨rfl, hsn⟩)
                    | ((with_reducible refine (H2.out _ (by assumption)).mono ?_); rintro e wn ⟨rfl, hsn⟩)
                    | ((with_reducible refine (H3.out _ (by assumption)).mono ?_); rintro e wn ⟨rfl, hsn⟩))
                go_roundg (len + 1 - (i + 1))
                case measure => exact HM.out
                case rel => exact ⟨i + 1, rfl, by omega, by first | rfl | go_num, by assumption⟩
          · have hiI : ¬ (i : Int) < (len : Int) := by omega
            go_wp2_with (go_at_call 20; (with_reducible refine (HAw.out _).mono ?_); rintro e w6 ⟨rfl, hh⟩; have hb6 := Lib.hid (below_next hb.out hh); clear hh)
            refine bodyPost_ret (by simp [results, Try.results4, asAddr, go_sem]; rfl) rfl ?_
            exact ⟨rfl, hb6.out⟩
    · have hPz : (P == 0) = true := by have := hzero.out; simp; omega
      go_enter Try.func4, Try.ntmps4
      go_upto_region 3 with (fail)
      rw [show (Value.slice A 64 c) = Value.slice A len c from by rw [hl64.out]]
      go_upto_region 4 with (go_at_call 14; (with_reducible refine (HCr.out _ hbW.out).mono ?_); rintro e w1 ⟨rfl, hh⟩; have hsn := Lib.hid hh; clear hh)
      go_upto_region 7 with
        (go_at_call 21; first
          | ((with_reducible refine (H1.out _ (by assumption)).mono ?_); rintro e wn ⟨rfl, hsn⟩)
          | ((with_reducible refine (H2.out _ (by assumption)).mono ?_); rintro e wn ⟨rfl, hsn⟩)
          | ((with_reducible refine (H3.out _ (by assumption)).mono ?_); rintro e wn ⟨rfl, hsn⟩))
      clear H1 ht1
      go_loopg [7] (len + 1) (fun gk s7 wr => ∃ i : Nat, gk = len + 1 - i ∧ i ≤ len ∧ s7 = .int .i64 (i : Int) ∧ Hid (Below W.heap.size W wr))
      case atStart => exact ⟨0, rfl, Nat.zero_le _, rfl, by assumption⟩
      case round =>
        clear hsn
        obtain ⟨i, rfl, hi, rfl, hb⟩ := hrel
        have i0 : (0 : Int) ≤ (i : Int) := by omega
        by_cases hil : i < len
        · have hiI : (i : Int) < (len : Int) := by omega
          have hiL : Hid (i < L.length) := Lib.hid (by rw [hlen.out]; exact hil)
          obtain ⟨b, o, rfl⟩ : ∃ b o, A = some ⟨b, o, none⟩ := by
            obtain ⟨b, o, e, _⟩ := H.out.cells hiL.out
            exact ⟨b, o, e⟩
          have c2 := (ORow.six H.out hiL.out hb.out).2.2.1
          generalize (L.getD i ord0).price = qp at c2
          have HM := Lib.hid (show len + 1 - (i + 1) < len + 1 - i by omega)
          obtain ⟨t, ht⟩ : ∃ t, Hid (Ca.traded R qp = t) := ⟨_, Lib.hid rfl⟩
          have ht1 : ¬ N < t := by have := hmost.out qp; rw [ht.out] at this; omega
          have H1 := Lib.hid (HK.out qp)
          rw [ht.out] at H1
          go_wp2_with
            (go_at_call 21; first
              | ((with_reducible refine (H1.out _ (by assumption)).mono ?_); rintro e wn ⟨rfl, hsn⟩)
              | ((with_reducible refine (H2.out _ (by assumption)).mono ?_); rintro e wn ⟨rfl, hsn⟩)
              | ((with_reducible refine (H3.out _ (by assumption)).mono ?_); rintro e wn ⟨rfl, hsn⟩))
          go_roundg (len + 1 - (i + 1))
          case measure => exact HM.out
          case rel => exact ⟨i + 1, rfl, by omega, by first | rfl | go_num, by assumption⟩
        · have hiI : ¬ (i : Int) < (len : Int) := by omega
          go_wp2_with (go_at_call 20; (with_reducible refine (HAw.out _).mono ?_); rintro e w6 ⟨rfl, hh⟩; have hb6 := Lib.hid (below_next hb.out hh); clear hh)
          refine bodyPost_ret (by simp [results, Try.results4, asAddr, go_sem]; rfl) rfl ?_
          exact ⟨rfl, hb6.out⟩
  · have hle : L0.length ≤ 64 := by omega
    have hlI : ¬ (64 : Int) < (len0 : Int) := by omega
    obtain ⟨L, rfl⟩ : ∃ L, L = L0 := ⟨L0, rfl⟩
    have h := h0
    clear h0
    subst hlen0
    have HCr := Lib.hid (fun wx (hb : Below W.heap.size W wx) => cross_calls wx A L c (h.below hb))
    have HTr : Hid (∀ wx, Below W.heap.size W wx → ∀ p, Calls Try.prog 21 #[.slice A L.length c, .int .i64 p] wx (Told wx (.int .i64 (Ca.traded (Ca.rights L) p)))) := Lib.hid fun wx hb p => by
      have := rtraded_calls wx A L c p (h.below hb) hle
      rwa [← Ca.rights_few_eq hle] at this
    have hmost := Lib.hid (Ca.cross_most L)
    have hless := Lib.hid (Ca.cross_less L)
    have hat := Lib.hid (Ca.cross_at L)
    have hzero := Lib.hid (Ca.cross_zero L)
    have hrg := Ca.cross_range L
    have hpr := Ca.cross_price L
    have H := Lib.hid h
    have HAw := Lib.hid (fun wx => awake_calls wx)
    generalize (Ca.cross L).1 = P at HCr hless hat hzero hpr
    generalize (Ca.cross L).2 = N at HCr hmost hless hat hzero hrg
    generalize Ca.rights L = R at HTr hmost hless hat
    obtain ⟨len, hlen⟩ : ∃ len, Hid (L.length = len) := ⟨_, Lib.hid rfl⟩
    rw [hlen.out] at HCr HTr hle
    have HK : Hid (∀ p wx, Hid (Below W.heap.size W wx) → Calls Try.prog 21 #[.slice A len c, .int .i64 p] wx fun e w' => e = .returned (.int .i64 (Ca.traded R p)) ∧ Hid (Below W.heap.size W w')) := Lib.hid fun p wx hb => (HTr.out wx hb.out p).mono fun e w' ⟨h1, h2⟩ => ⟨h1, Lib.hid (below_next hb.out h2)⟩
    have hbW : Hid (Below W.heap.size W W) := Lib.hid (Below.refl _ _)
    have qP : IntKind.i64.wrap (P - 1) = P - 1 := by rw [IntKind.wrap_i64]; omega
    clear h HTr
    rw [hlen.out] at hlI ⊢
    obtain ⟨t1, ht1'⟩ : ∃ t, Hid (Ca.traded R price = t) := ⟨_, Lib.hid rfl⟩
    have ht1 : ¬ N < t1 := by have := hmost.out price; rw [ht1'.out] at this; omega
    have H1 : Hid (∀ wx, Hid (Below W.heap.size W wx) → Calls Try.prog 21 #[.slice A len c, .int .i64 price] wx fun e w' => e = .returned (.int .i64 t1) ∧ Hid (Below W.heap.size W w')) := Lib.hid fun wx hb => by
      have := HK.out price wx hb
      rwa [ht1'.out] at this
    by_cases hN : 0 < N
    · have H2 : Hid (∀ wx, Hid (Below W.heap.size W wx) → Calls Try.prog 21 #[.slice A len c, .int .i64 P] wx fun e w' => e = .returned (.int .i64 N) ∧ Hid (Below W.heap.size W w')) := Lib.hid fun wx hb => by
        have := HK.out P wx hb
        rwa [hat.out hN] at this
      obtain ⟨t3, ht3'⟩ : ∃ t, Hid (Ca.traded R (P - 1) = t) := ⟨_, Lib.hid rfl⟩
      have ht3 : ¬ N ≤ t3 := by have := hless.out (P - 1) hN (by omega); rw [ht3'.out] at this; omega
      have H3 : Hid (∀ wx, Hid (Below W.heap.size W wx) → Calls Try.prog 21 #[.slice A len c, .int .i64 (P - 1)] wx fun e w' => e = .returned (.int .i64 t3) ∧ Hid (Below W.heap.size W w')) := Lib.hid fun wx hb => by
        have := HK.out (P - 1) wx hb
        rwa [ht3'.out] at this
      have hNN : (N != N) = false := by simp
      by_cases hlt : price < P
      · have ht2 : ¬ N ≤ t1 := by have := hless.out price hN hlt; rw [ht1'.out] at this; omega
        go_enter Try.func4, Try.ntmps4
        go_upto_region 4 with (go_at_call 14; (with_reducible refine (HCr.out _ hbW.out).mono ?_); rintro e w1 ⟨rfl, hh⟩; have hsn := Lib.hid hh; clear hh)
        go_upto_region 7 with
          (go_at_call 21; first
            | ((with_reducible refine (H1.out _ (by assumption)).mono ?_); rintro e wn ⟨rfl, hsn⟩)
            | ((with_reducible refine (H2.out _ (by assumption)).mono ?_); rintro e wn ⟨rfl, hsn⟩)
            | ((with_reducible refine (H3.out _ (by assumption)).mono ?_); rintro e wn ⟨rfl, hsn⟩))
        clear H1 ht2 ht1
        go_loopg [7] (len + 1) (fun gk s7 wr => ∃ i : Nat, gk = len + 1 - i ∧ i ≤ len ∧ s7 = .int .i64 (i : Int) ∧ Hid (Below W.heap.size W wr))
        case atStart => exact ⟨0, rfl, Nat.zero_le _, rfl, by assumption⟩
        case round =>
          clear hsn
          obtain ⟨i, rfl, hi, rfl, hb⟩ := hrel
          have i0 : (0 : Int) ≤ (i : Int) := by omega
          by_cases hil : i < len
          · have hiI : (i : Int) < (len : Int) := by omega
            have hiL : Hid (i < L.length) := Lib.hid (by rw [hlen.out]; exact hil)
            obtain ⟨b, o, rfl⟩ : ∃ b o, A = some ⟨b, o, none⟩ := by
              obtain ⟨b, o, e, _⟩ := H.out.cells hiL.out
              exact ⟨b, o, e⟩
            have c2 := (ORow.six H.out hiL.out hb.out).2.2.1
            generalize (L.getD i ord0).price = qp at c2
            have HM := Lib.hid (show len + 1 - (i + 1) < len + 1 - i by omega)
            obtain ⟨t, ht⟩ : ∃ t, Hid (Ca.traded R qp = t) := ⟨_, Lib.hid rfl⟩
            have ht1 : ¬ N < t := by have := hmost.out qp; rw [ht.out] at this; omega
            by_cases hq : qp < P
            · have ht2 : t < N := by have := hless.out qp hN hq; rw [ht.out] at this; exact this
              by_cases hP : 0 < P
              ·
                have H1 := Lib.hid (HK.out qp)
                rw [ht.out] at H1
                go_wp2_with
                  (go_at_call 21; first
                    | ((with_reducible refine (H1.out _ (by assumption)).mono ?_); rintro e wn ⟨rfl, hsn⟩)
                    | ((with_reducible refine (H2.out _ (by assumption)).mono ?_); rintro e wn ⟨rfl, hsn⟩)
                    | ((with_reducible refine (H3.out _ (by assumption)).mono ?_); rintro e wn ⟨rfl, hsn⟩))
                go_roundg (len + 1 - (i + 1))
                case measure => exact HM.out
                case rel => exact ⟨i + 1, rfl, by omega, by first | rfl | go_num, by assumption⟩
              ·
                have H1 := Lib.hid (HK.out qp)
                rw [ht.out] at H1
                go_wp2_with
                  (go_at_call 21; first
                    | ((with_reducible refine (H1.out _ (by assumption)).mono ?_); rintro e wn ⟨rfl, hsn⟩)
                    | ((with_reducible refine (H2.out _ (by assumption)).mono ?_); rintro e wn ⟨rfl, hsn⟩)
                    | ((with_reducible refine (H3.out _ (by assumption)).mono ?_); rintro e wn ⟨rfl, hsn⟩))
                go_roundg (len + 1 - (i + 1))
                case measure => exact HM.out
                case rel => exact ⟨i + 1, rfl, by omega, by first | rfl | go_num, by assumption⟩
            · by_cases hP : 0 < P
              ·
                have H1 := Lib.hid (HK.out qp)
                rw [ht.out] at H1
                go_wp2_with
                  (go_at_call 21; first
                    | ((with_reducible refine (H1.out _ (by assumption)).mono ?_); rintro e wn ⟨rfl, hsn⟩)
                    | ((with_reducible refine (H2.out _ (by assumption)).mono ?_); rintro e wn ⟨rfl, hsn⟩)
                    | ((with_reducible refine (H3.out _ (by assumption)).mono ?_); rintro e wn ⟨rfl, hsn⟩))
                go_roundg (len + 1 - (i + 1))
                case measure => exact HM.out
                case rel => exact ⟨i + 1, rfl, by omega, by first | rfl | go_num, by assumption⟩
              ·
                have H1 := Lib.hid (HK.out qp)
                rw [ht.out] at H1
                go_wp2_with
                  (go_at_call 21; first
                    | ((with_reducible refine (H1.out _ (by assumption)).mono ?_); rintro e wn ⟨rfl, hsn⟩)
                    | ((with_reducible refine (H2.out _ (by assumption)).mono ?_); rintro e wn ⟨rfl, hsn⟩)
                    | ((with_reducible refine (H3.out _ (by assumption)).mono ?_); rintro e wn ⟨rfl, hsn⟩))
                go_roundg (len + 1 - (i + 1))
                case measure => exact HM.out
                case rel => exact ⟨i + 1, rfl, by omega, by first | rfl | go_num, by assumption⟩
          · have hiI : ¬ (i : Int) < (len : Int) := by omega
            go_wp2_with (go_at_call 20; (with_reducible refine (HAw.out _).mono ?_); rintro e w6 ⟨rfl, hh⟩; have hb6 := Lib.hid (below_next hb.out hh); clear hh)
            refine bodyPost_ret (by simp [results, Try.results4, asAddr, go_sem]; rfl) rfl ?_
            exact ⟨rfl, hb6.out⟩
      ·
        go_enter Try.func4, Try.ntmps4
        go_upto_region 4 with (go_at_call 14; (with_reducible refine (HCr.out _ hbW.out).mono ?_); rintro e w1 ⟨rfl, hh⟩; have hsn := Lib.hid hh; clear hh)
        go_upto_region 7 with
          (go_at_call 21; first
            | ((with_reducible refine (H1.out _ (by assumption)).mono ?_); rintro e wn ⟨rfl, hsn⟩)
            | ((with_reducible refine (H2.out _ (by assumption)).mono ?_); rintro e wn ⟨rfl, hsn⟩)
            | ((with_reducible refine (H3.out _ (by assumption)).mono ?_); rintro e wn ⟨rfl, hsn⟩))
        clear H1 ht1
        go_loopg [7] (len + 1) (fun gk s7 wr => ∃ i : Nat, gk = len + 1 - i ∧ i ≤ len ∧ s7 = .int .i64 (i : Int) ∧ Hid (Below W.heap.size W wr))
        case atStart => exact ⟨0, rfl, Nat.zero_le _, rfl, by assumption⟩
        case round =>
          clear hsn
          obtain ⟨i, rfl, hi, rfl, hb⟩ := hrel
          have i0 : (0 : Int) ≤ (i : Int) := by omega
          by_cases hil : i < len
          · have hiI : (i : Int) < (len : Int) := by omega
            have hiL : Hid (i < L.length) := Lib.hid (by rw [hlen.out]; exact hil)
            obtain ⟨b, o, rfl⟩ : ∃ b o, A = some ⟨b, o, none⟩ := by
              obtain ⟨b, o, e, _⟩ := H.out.cells hiL.out
              exact ⟨b, o, e⟩
            have c2 := (ORow.six H.out hiL.out hb.out).2.2.1
            generalize (L.getD i ord0).price = qp at c2
            have HM := Lib.hid (show len + 1 - (i + 1) < len + 1 - i by omega)
            obtain ⟨t, ht⟩ : ∃ t, Hid (Ca.traded R qp = t) := ⟨_, Lib.hid rfl⟩
            have ht1 : ¬ N < t := by have := hmost.out qp; rw [ht.out] at this; omega
            by_cases hq : qp < P
            · have ht2 : t < N := by have := hless.out qp hN hq; rw [ht.out] at this; exact this
              by_cases hP : 0 < P
              ·
                have H1 := Lib.hid (HK.out qp)
                rw [ht.out] at H1
                go_wp2_with
                  (go_at_call 21; first
                    | ((with_reducible refine (H1.out _ (by assumption)).mono ?_); rintro e wn ⟨rfl, hsn⟩)
                    | ((with_reducible refine (H2.out _ (by assumption)).mono ?_); rintro e wn ⟨rfl, hsn⟩)
                    | ((with_reducible refine (H3.out _ (by assumption)).mono ?_); rintro e wn ⟨rfl, hsn⟩))
                go_roundg (len + 1 - (i + 1))
                case measure => exact HM.out
                case rel => exact ⟨i + 1, rfl, by omega, by first | rfl | go_num, by assumption⟩
              ·
                have H1 := Lib.hid (HK.out qp)
                rw [ht.out] at H1
                go_wp2_with
                  (go_at_call 21; first
                    | ((with_reducible refine (H1.out _ (by assumption)).mono ?_); rintro e wn ⟨rfl, hsn⟩)
                    | ((with_reducible refine (H2.out _ (by assumption)).mono ?_); rintro e wn ⟨rfl, hsn⟩)
                    | ((with_reducible refine (H3.out _ (by assumption)).mono ?_); rintro e wn ⟨rfl, hsn⟩))
                go_roundg (len + 1 - (i + 1))
                case measure => exact HM.out
                case rel => exact ⟨i + 1, rfl, by omega, by first | rfl | go_num, by assumption⟩
            · by_cases hP : 0 < P
              ·
                have H1 := Lib.hid (HK.out qp)
                rw [ht.out] at H1
                go_wp2_with
                  (go_at_call 21; first
                    | ((with_reducible refine (H1.out _ (by assumption)).mono ?_); rintro e wn ⟨rfl, hsn⟩)
                    | ((with_reducible refine (H2.out _ (by assumption)).mono ?_); rintro e wn ⟨rfl, hsn⟩)
                    | ((with_reducible refine (H3.out _ (by assumption)).mono ?_); rintro e wn ⟨rfl, hsn⟩))
                go_roundg (len + 1 - (i + 1))
                case measure => exact HM.out
                case rel => exact ⟨i + 1, rfl, by omega, by first | rfl | go_num, by assumption⟩
              ·
                have H1 := Lib.hid (HK.out qp)
                rw [ht.out] at H1
                go_wp2_with
                  (go_at_call 21; first
                    | ((with_reducible refine (H1.out _ (by assumption)).mono ?_); rintro e wn ⟨rfl, hsn⟩)
                    | ((with_reducible refine (H2.out _ (by assumption)).mono ?_); rintro e wn ⟨rfl, hsn⟩)
                    | ((with_reducible refine (H3.out _ (by assumption)).mono ?_); rintro e wn ⟨rfl, hsn⟩))
                go_roundg (len + 1 - (i + 1))
                case measure => exact HM.out
                case rel => exact ⟨i + 1, rfl, by omega, by first | rfl | go_num, by assumption⟩
          · have hiI : ¬ (i : Int) < (len : Int) := by omega
            go_wp2_with (go_at_call 20; (with_reducible refine (HAw.out _).mono ?_); rintro e w6 ⟨rfl, hh⟩; have hb6 := Lib.hid (below_next hb.out hh); clear hh)
            refine bodyPost_ret (by simp [results, Try.results4, asAddr, go_sem]; rfl) rfl ?_
            exact ⟨rfl, hb6.out⟩
    · have hPz : (P == 0) = true := by have := hzero.out; simp; omega
      go_enter Try.func4, Try.ntmps4
      go_upto_region 4 with (go_at_call 14; (with_reducible refine (HCr.out _ hbW.out).mono ?_); rintro e w1 ⟨rfl, hh⟩; have hsn := Lib.hid hh; clear hh)
      go_upto_region 7 with
        (go_at_call 21; first
          | ((with_reducible refine (H1.out _ (by assumption)).mono ?_); rintro e wn ⟨rfl, hsn⟩)
          | ((with_reducible refine (H2.out _ (by assumption)).mono ?_); rintro e wn ⟨rfl, hsn⟩)
          | ((with_reducible refine (H3.out _ (by assumption)).mono ?_); rintro e wn ⟨rfl, hsn⟩))
      clear H1 ht1
      go_loopg [7] (len + 1) (fun gk s7 wr => ∃ i : Nat, gk = len + 1 - i ∧ i ≤ len ∧ s7 = .int .i64 (i : Int) ∧ Hid (Below W.heap.size W wr))
      case atStart => exact ⟨0, rfl, Nat.zero_le _, rfl, by assumption⟩
      case round =>
        clear hsn
        obtain ⟨i, rfl, hi, rfl, hb⟩ := hrel
        have i0 : (0 : Int) ≤ (i : Int) := by omega
        by_cases hil : i < len
        · have hiI : (i : Int) < (len : Int) := by omega
          have hiL : Hid (i < L.length) := Lib.hid (by rw [hlen.out]; exact hil)
          obtain ⟨b, o, rfl⟩ : ∃ b o, A = some ⟨b, o, none⟩ := by
            obtain ⟨b, o, e, _⟩ := H.out.cells hiL.out
            exact ⟨b, o, e⟩
          have c2 := (ORow.six H.out hiL.out hb.out).2.2.1
          generalize (L.getD i ord0).price = qp at c2
          have HM := Lib.hid (show len + 1 - (i + 1) < len + 1 - i by omega)
          obtain ⟨t, ht⟩ : ∃ t, Hid (Ca.traded R qp = t) := ⟨_, Lib.hid rfl⟩
          have ht1 : ¬ N < t := by have := hmost.out qp; rw [ht.out] at this; omega
          have H1 := Lib.hid (HK.out qp)
          rw [ht.out] at H1
          go_wp2_with
            (go_at_call 21; first
              | ((with_reducible refine (H1.out _ (by assumption)).mono ?_); rintro e wn ⟨rfl, hsn⟩)
              | ((with_reducible refine (H2.out _ (by assumption)).mono ?_); rintro e wn ⟨rfl, hsn⟩)
              | ((with_reducible refine (H3.out _ (by assumption)).mono ?_); rintro e wn ⟨rfl, hsn⟩))
          go_roundg (len + 1 - (i + 1))
          case measure => exact HM.out
          case rel => exact ⟨i + 1, rfl, by omega, by first | rfl | go_num, by assumption⟩
        · have hiI : ¬ (i : Int) < (len : Int) := by omega
          go_wp2_with (go_at_call 20; (with_reducible refine (HAw.out _).mono ?_); rintro e w6 ⟨rfl, hh⟩; have hb6 := Lib.hid (below_next hb.out hh); clear hh)
          refine bodyPost_ret (by simp [results, Try.results4, asAddr, go_sem]; rfl) rfl ?_
          exact ⟨rfl, hb6.out⟩
end Go.Proofs.Ytilbhnloelgpdaa
