/- The walk of VlogAgree: two quorums meet. -/
import Derived.Test.YtedndjbhgbdpoaaAgL
namespace Go.Proofs.Ytedndjbhgbdpoaa
open Go.RowKit
theorem V2.prepared {w0 w : World} {g g2 : Nat} {l l2 : Vl} (h : V2 w0 w g l g2 l2) (seq : Int) : Calls Try.prog 18 #[.pointer (some ⟨g, 0, none⟩), .int .i64 seq] w fun e w' => e = .returned (.bool (l.prepared seq)) ∧ V2 w0 w' g l g2 l2 :=
  (h.vw.prepared seq).mono fun _ _ ⟨h1, h2⟩ => ⟨h1, h.next h2⟩
theorem V2.votes {w0 w : World} {g g2 : Nat} {l l2 : Vl} (h : V2 w0 w g l g2 l2) (i : Int) (d : ByteArray) : Calls Try.prog 16 #[.pointer (some ⟨g, 0, none⟩), .agg (acells ⟨2, i, 0, 1, d, tM⟩).toArray] w fun e w' => (∃ r, e = .returned (.int .i64 r)) ∧ V2 w0 w' g (l.act ⟨2, i, 0, 1, d, tM⟩).1 g2 l2 :=
  (h.done ⟨2, i, 0, 1, d, tM⟩).mono fun _ _ ⟨h1, h2⟩ => ⟨⟨_, h1⟩, h2⟩
set_option maxHeartbeats 8000000 in
set_option maxRecDepth 100000 in
theorem VlogAgree_walk (w : World) (f : Int) (_hf : (Lit.int .i64 f).wf = true) (x : ByteArray) (_hx : x.size ≤ 140737488351232) (y : ByteArray) (_hy : y.size ≤ 140737488351232) (A : Option Addr) (len c : Nat) (Z : Nat → ByteArray) (_hz : ∀ j, j < len → (Z j).size ≤ 140737488351232) (hlc : len ≤ c) (hcm : c ≤ maxLen) (hR : Row w A len (fun j => .string (Z j))) :
    Calls Try.prog 3 #[.int .i64 f, .string x, .string y, .slice A len c] w fun e w' => e = .returned (.bool true) ∧ Below w.heap.size w w' := by
  have hlen : len ≤ 9223372036854775807 := by unfold maxLen at hcm; omega
  have HR := Lib.hid hR
  clear _hf _hx _hy _hz hlc hcm hR
  have HA := Lib.hid (fun w => awake_calls w)
  have HK4 := Lib.hid (fun w => around4 f w)
  have hk4 := arnd_lt f (below := 4) (by omega)
  generalize arnd f 4 = k4 at HK4 hk4
  obtain ⟨K, hK⟩ : ∃ K : Nat, K = 1 + k4 := ⟨_, rfl⟩
  obtain ⟨N, hN⟩ : ∃ N : Nat, N = 3 * K + 1 := ⟨_, rfl⟩
  have hK1 : 1 + (k4 : Int) = (K : Int) := by omega
  have hN1 : 3 * (K : Int) + 1 = (N : Int) := by omega
  have hK4 : K ≤ 4 := by omega
  have hK0 : (0 : Int) ≤ (K : Int) := by omega
  have hK4I : (K : Int) ≤ 4 := by omega
  have HN := Lib.hid hN
  have HNew : Hid (∀ wx, Below w.heap.size w wx → Calls Try.prog 13 #[.int .i64 (N : Int)] wx (NewLog (N : Int) w)) := Lib.hid fun wx hb => Vw.new w wx hb (N : Int) (by omega)
  have HNew2 := Lib.hid (fun (wx : World) (g : Nat) (h : Vw w wx g (Vl.fresh (N : Int))) => V2.made h (n := (N : Int)) (by omega))
  have HL := Lib.hid (fun kd fr sq d w => vote_law kd fr sq d w)
  have HLaw := Lib.hid (fun hx hy h1 h2 => Vl.ag_law (n := N) (k := K) (len := len) (Z := Z) (x := x) (y := y) (t := tX) hx hy hN h1 h2)
  have HK1 := Lib.hid hK1
  have HN1 := Lib.hid hN1
  have hN13 : N ≤ 13 := by omega
  have hk40 : (0 : Int) ≤ (k4 : Int) := by omega
  have hk44 : (k4 : Int) < 4 := by omega
  clear hK1 hN1 hK hN hk4
  go_enter Try.func3, Try.ntmps3
  go_upto_region 2 with (first
    | (go_at_call 12; (with_reducible refine (HK4.out _).mono ?_); rintro e w1 ⟨rfl, rfl⟩))
  rw [HK1.out]
  go_upto_region 3 with (fail)
  rw [HN1.out]
  go_upto_region 5 with (first
    | (go_at_call 13; (first
        | ((refine (HNew2.out _ _ H1.out).mono ?_); rintro e w2 ⟨g2, rfl, h⟩; have H2 := Lib.hid h; clear h)
        | ((refine (HNew.out _ (Below.refl _ _)).mono ?_); rintro e w1 ⟨g, rfl, h⟩; have H1 := Lib.hid h; clear h))))
  clear HNew HNew2 hk40 hk44 HK1
  by_cases hx : x = noText
  · subst hx
    unfold noText
    go_wp2_with (first
      | (go_at_call 14; (with_reducible refine (HA.out _).mono ?_); rintro e w9 ⟨rfl, ha⟩; have HA8 := Lib.hid ha; clear ha))
    go_ret
    exact ⟨rfl, below_next H2.out.vw.all HA8.out⟩
  · obtain ⟨s1, s2, s3⟩ := text_none hx
    by_cases hy : y = noText
    · subst hy
      unfold noText
      go_wp2_with (first
        | (go_at_call 14; (with_reducible refine (HA.out _).mono ?_); rintro e w9 ⟨rfl, ha⟩; have HA8 := Lib.hid ha; clear ha))
      go_ret
      exact ⟨rfl, below_next H2.out.vw.all HA8.out⟩
    · obtain ⟨t1, t2, t3⟩ := text_none hy
      have HX := Lib.hid hx
      have HY := Lib.hid hy
      have HP1 := Lib.hid (H2.out.propose 0 1 x tX)
      unfold Turned2 tX at HP1
      generalize hr1 : ((Vl.fresh (N : Int)).propose 0 1 x ⟨#[120]⟩).2 = r1 at HP1
      have HP2 : Hid (∀ wx, V2 w wx g2 (Vl.fresh (N : Int)) g (Vl.agL N K len Z x tX 0) → Calls Try.prog 15 #[.pointer (some ⟨g2, 0, none⟩), .int .i64 0, .int .i64 1, .string y, .string ⟨#[120]⟩] wx fun e w' => (∃ r, e = .returned (.int .i64 r)) ∧ V2 w w' g2 (Vl.agL N K len Z y tX 0) g (Vl.agL N K len Z x tX 0)) := Lib.hid fun wx h => (h.propose 0 1 y tX).mono fun _ _ ⟨h1, h2⟩ => ⟨⟨_, h1⟩, h2⟩
      clear hr1 hx hy
      go_upto_region 9 with (first
        | (go_at_call 15; (first
            | ((refine (HP2.out _ H3.out).mono ?_); rintro e w4 ⟨⟨r, rfl⟩, h⟩; have H4 := Lib.hid h; clear h)
            | ((refine (HP1.out).mono ?_); rintro e w3 ⟨rfl, h⟩; have H3 : Hid (V2 w w3 g2 (Vl.fresh (N : Int)) g (Vl.agL N K len Z x tX 0)) := Lib.hid h.swap; clear h))))
      clear HP1 HP2
      go_wp2
      go_loopg [15] (N + 1) (fun gk s15 wr => ∃ i : Nat, gk = N + 1 - i ∧ i ≤ N ∧ s15 = .int .i64 (i : Int) ∧ Hid (V2 w wr g (Vl.agL N K len Z x tX i) g2 (Vl.agL N K len Z y tX i)))
      case atStart => exact ⟨0, rfl, Nat.zero_le _, rfl, Lib.hid H4.out.swap⟩
      case round =>
        clear H4
        obtain ⟨i, rfl, hi, rfl, H⟩ := hrel
        have i0 : (0 : Int) ≤ (i : Int) := by omega
        by_cases hlt : i < N
        · have hltI : (i : Int) < (N : Int) := by omega
          have ha : Hid (Vl.agL N K len Z x tX (i + 1) = (Vl.agL N K len Z x tX i).agStep K len Z x i) := Lib.hid rfl
          have hb : Hid (Vl.agL N K len Z y tX (i + 1) = (Vl.agL N K len Z y tX i).agStep K len Z y i) := Lib.hid rfl
          generalize Vl.agL N K len Z x tX i = la at H ha
          generalize Vl.agL N K len Z y tX i = lb at H hb
          by_cases hik : i < K
          · have hikI : (i : Int) < (K : Int) := by omega
            have hikB : decide ((K : Int) ≤ (i : Int)) = false := by simp; omega
            have Ea : Hid (Vl.agL N K len Z x tX (i + 1) = (la.act ⟨2, (i : Int), 0, 1, x, tM⟩).1) := Lib.hid (by rw [ha.out]; unfold Vl.agStep says; rw [if_pos hik])
            have Eb : Hid (Vl.agL N K len Z y tX (i + 1) = (lb.act ⟨2, (i : Int), 0, 1, y, tM⟩).1) := Lib.hid (by rw [hb.out]; unfold Vl.agStep says; rw [if_pos hik])
            have HD1 := Lib.hid (fun wx (h : V2 w wx g la g2 lb) => h.votes (i : Int) x)
            have HD2 := Lib.hid (fun wx (la' : Vl) (h : V2 w wx g2 lb g la') => h.votes (i : Int) y)
            clear ha hb hik
            go_wp2_with (first
              | (go_at_call 17; (with_reducible refine (HL.out _ _ _ _ _).mono ?_); rintro e wv ⟨rfl, hv⟩; have HV := Lib.hid hv; clear hv)
              | (go_at_call 16; (first
                  | ((with_reducible refine (HD2.out _ _ (H5.out.next HV.out)).mono ?_); rintro e w6 ⟨⟨r, rfl⟩, h⟩; have H6 := Lib.hid h.swap; clear h HV)
                  | ((with_reducible refine (HD1.out _ (H.out.next HV.out)).mono ?_); rintro e w5 ⟨⟨r, rfl⟩, h⟩; have H5 := Lib.hid h.swap; clear h HV))))
            go_roundg (N + 1 - (i + 1))
            case measure => omega
            case rel => exact ⟨i + 1, rfl, by omega, by go_num, Lib.hid (by rw [Ea.out, Eb.out]; exact H6.out)⟩
          · have hikI : (K : Int) ≤ (i : Int) := by omega
            obtain ⟨j, rfl⟩ : ∃ j, i = K + j := ⟨i - K, by omega⟩
            have hj0 : (0 : Int) ≤ (j : Int) := by omega
            have hj13 : (j : Int) ≤ 13 := by omega
            by_cases hjl : j < len
            · have hjlI : (j : Int) < (len : Int) := by omega
              have hjlB : decide ((len : Int) ≤ (j : Int)) = false := by simp; omega
              have Ea : Hid (Vl.agL N K len Z x tX (K + j + 1) = (la.act ⟨2, ((K + j : Nat) : Int), 0, 1, Z j, tM⟩).1) := Lib.hid (by rw [ha.out]; unfold Vl.agStep says; rw [if_neg hik, show K + j - K = j from by omega, if_pos hjl])
              have Eb : Hid (Vl.agL N K len Z y tX (K + j + 1) = (lb.act ⟨2, ((K + j : Nat) : Int), 0, 1, Z j, tM⟩).1) := Lib.hid (by rw [hb.out]; unfold Vl.agStep says; rw [if_neg hik, show K + j - K = j from by omega, if_pos hjl])
              have HD1 := Lib.hid (fun wx (h : V2 w wx g la g2 lb) => h.votes ((K + j : Nat) : Int) (Z j))
              have HD2 := Lib.hid (fun wx (la' : Vl) (h : V2 w wx g2 lb g la') => h.votes ((K + j : Nat) : Int) (Z j))
              obtain ⟨b, o, rfl, hlt0, hcell⟩ := Row.at_ HR.out hjl
              have c0 : wr.cell? ⟨b, o + j, none⟩ = some (.string (Z j)) := (below_cell H.out.vw.all hlt0).trans hcell
              generalize Z j = zj at c0 Ea Eb HD1 HD2
              have e1 : ((K + j : Nat) : Int) = (K : Int) + (j : Int) := by omega
              rw [e1] at HD1 HD2 Ea Eb hltI i0 hikI ⊢
              have hw1 : IntKind.i64.wrap ((K : Int) + (j : Int) - (K : Int)) = (j : Int) := by rw [IntKind.wrap_i64]; omega
              have hw2 : IntKind.i64.wrap (j : Int) = (j : Int) := by rw [IntKind.wrap_i64]; omega
              clear ha hb hik e1 hlt0 hcell
              go_upto_region 15 with (fail)
              go_quiet (fail)
              go_upto_region 16 with (fail)
              clear hw1 hw2 c0
              generalize hwy : World.drewN _ _ = wy
              have Hy : Hid (V2 w wy g la g2 lb) := Lib.hid (by rw [← hwy]; exact H.out.next (below_draw (Below.refl _ _) _))
              clear hwy H
              go_wp2_with (first
                | (go_at_call 17; (with_reducible refine (HL.out _ _ _ _ _).mono ?_); rintro e wv ⟨rfl, hv⟩; have HV := Lib.hid hv; clear hv)
                | (go_at_call 16; (first
                    | ((with_reducible refine (HD2.out _ _ (H5.out.next HV.out)).mono ?_); rintro e w6 ⟨⟨r, rfl⟩, h⟩; have H6 := Lib.hid h.swap; clear h HV)
                    | ((with_reducible refine (HD1.out _ (Hy.out.next HV.out)).mono ?_); rintro e w5 ⟨⟨r, rfl⟩, h⟩; have H5 := Lib.hid h.swap; clear h HV))))
              go_roundg (N + 1 - (K + j + 1))
              case measure => omega
              case rel => exact ⟨K + j + 1, rfl, by omega, by go_num, Lib.hid (by rw [Ea.out, Eb.out]; exact H6.out)⟩
            · have hjlI : (len : Int) ≤ (j : Int) := by omega
              have Ea : Hid (Vl.agL N K len Z x tX (K + j + 1) = la) := Lib.hid (by rw [ha.out]; unfold Vl.agStep says; rw [if_neg hik, show K + j - K = j from by omega, if_neg hjl])
              have Eb : Hid (Vl.agL N K len Z y tX (K + j + 1) = lb) := Lib.hid (by rw [hb.out]; unfold Vl.agStep says; rw [if_neg hik, show K + j - K = j from by omega, if_neg hjl])
              have e1 : ((K + j : Nat) : Int) = (K : Int) + (j : Int) := by omega
              rw [e1] at hltI i0 hikI ⊢
              clear ha hb hik hjl e1
              go_wp2
              go_roundg (N + 1 - (K + j + 1))
              case measure => omega
              case rel => exact ⟨K + j + 1, rfl, by omega, by go_num, Lib.hid (by rw [Ea.out, Eb.out]; exact H.out)⟩
        · obtain rfl : i = N := by omega
          have hL := Lib.hid (fun h1 h2 => HLaw.out HX.out HY.out h1 h2)
          have HPa := Lib.hid (H.out.prepared 1)
          have HPb := Lib.hid (fun wx (h : V2 w wx g (Vl.agL i K len Z x tX i) g2 (Vl.agL i K len Z y tX i)) => h.swap.prepared 1)
          obtain ⟨pa, hpa⟩ : ∃ pa, (Vl.agL i K len Z x tX i).prepared 1 = pa := ⟨_, rfl⟩
          obtain ⟨pb, hpb⟩ : ∃ pb, (Vl.agL i K len Z y tX i).prepared 1 = pb := ⟨_, rfl⟩
          rw [hpa] at HPa hL
          rw [hpb] at HPb hL
          clear hpa hpb hlt hi HLaw
          cases pa with
          | false =>
            go_wp2_with (first
              | (go_at_call 18; (first
                  | ((with_reducible refine (HPb.out _ H5.out).mono ?_); rintro e w6 ⟨rfl, h⟩; have H6 := Lib.hid h.swap; clear h)
                  | ((with_reducible refine (HPa.out).mono ?_); rintro e w5 ⟨rfl, h⟩; have H5 := Lib.hid h; clear h)))
              | (go_at_call 14; (with_reducible refine (HA.out _).mono ?_); rintro e w9 ⟨rfl, ha⟩; have HA8 := Lib.hid ha; clear ha))
            go_ret
            first | exact ⟨rfl, below_next H6.out.vw.all HA8.out⟩ | exact ⟨rfl, below_next H5.out.vw.all HA8.out⟩
          | true =>
            cases pb with
            | false =>
              go_wp2_with (first
                | (go_at_call 18; (first
                    | ((with_reducible refine (HPb.out _ H5.out).mono ?_); rintro e w6 ⟨rfl, h⟩; have H6 := Lib.hid h.swap; clear h)
                    | ((with_reducible refine (HPa.out).mono ?_); rintro e w5 ⟨rfl, h⟩; have H5 := Lib.hid h; clear h)))
                | (go_at_call 14; (with_reducible refine (HA.out _).mono ?_); rintro e w9 ⟨rfl, ha⟩; have HA8 := Lib.hid ha; clear ha))
              go_ret
              first | exact ⟨rfl, below_next H6.out.vw.all HA8.out⟩ | exact ⟨rfl, below_next H5.out.vw.all HA8.out⟩
            | true =>
              have e := hL.out rfl rfl
              subst e
              go_wp2_with (first
                | (go_at_call 18; (first
                    | ((with_reducible refine (HPb.out _ H5.out).mono ?_); rintro e w6 ⟨rfl, h⟩; have H6 := Lib.hid h.swap; clear h)
                    | ((with_reducible refine (HPa.out).mono ?_); rintro e w5 ⟨rfl, h⟩; have H5 := Lib.hid h; clear h)))
                | (go_at_call 14; (with_reducible refine (HA.out _).mono ?_); rintro e w9 ⟨rfl, ha⟩; have HA8 := Lib.hid ha; clear ha))
              go_ret
              first | exact ⟨rfl, below_next H6.out.vw.all HA8.out⟩ | exact ⟨rfl, below_next H5.out.vw.all HA8.out⟩
end Go.Proofs.Ytedndjbhgbdpoaa
