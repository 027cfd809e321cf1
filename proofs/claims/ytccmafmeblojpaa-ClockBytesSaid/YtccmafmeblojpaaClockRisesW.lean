/- The walk of ClockRises: from a round to the next nobody's demand rises, and the price does not fall. -/
import Derived.Test.YtccmafmeblojpaaActs
namespace Go.Proofs.Ytccmafmeblojpaa
open Go.RowKit
theorem Auc.bid_same (a : Auc) (who n : Int) : (a.bid who n).1.price = a.price ∧ (a.bid who n).1.round = a.round ∧ (a.bid who n).1.l.length = a.l.length := by
  unfold Auc.bid
  split
  · exact ⟨rfl, rfl, rfl⟩
  split
  · exact ⟨rfl, rfl, rfl⟩
  split
  · exact ⟨rfl, rfl, rfl⟩
  · exact ⟨rfl, rfl, by simp⟩
theorem Auc.next_goes (a : Auc) (h : a.Ok) : a.price ≤ a.next.1.price ∧ a.round ≤ a.next.1.round ∧ a.next.1.round ≤ a.round + 1 ∧ a.next.1.l.length = a.l.length := by
  unfold Auc.next
  split
  · exact ⟨Int.le_refl _, Int.le_refl _, by show a.round ≤ a.round + 1; omega, rfl⟩
  split
  · exact ⟨Int.le_refl _, Int.le_refl _, by show a.round ≤ a.round + 1; omega, rfl⟩
  split
  · exact ⟨Int.le_refl _, Int.le_refl _, by show a.round ≤ a.round + 1; omega, rfl⟩
  · refine ⟨?_, by show a.round ≤ a.round + 1; omega, Int.le_refl _, by simp⟩
    have h1 := h.step.1
    unfold Auc.price
    show a.start + (a.round - 1) * a.step ≤ a.start + (a.round + 1 - 1) * a.step
    rw [show a.round + 1 - 1 = (a.round - 1) + 1 from by omega, Int.add_mul, Int.one_mul]
    omega
/-- What is told of a bidder never rises. -/
theorem Auc.tells {a : Auc} (h : a.Ok) (hf : a.Fair) {k : Nat} (hk : k < a.l.length) :
    0 ≤ (a.l.getD k (0, 0)).2 ∧ (1 < a.round ∧ (a.l.getD k (0, 0)).2 ≤ (a.l.getD k (0, 0)).1 ∨ a.round = 1 ∧ (a.l.getD k (0, 0)).1 = 0) := by
  have hmem : a.l.getD k (0, 0) ∈ a.l := by
    rw [List.getD_eq_getElem?_getD, List.getElem?_eq_getElem hk]; exact List.getElem_mem hk
  refine ⟨(h.each _ hmem).2.2.1, ?_⟩
  have := h.round
  by_cases hr : a.round = 1
  · exact .inr ⟨hr, hf.first hr _ hmem⟩
  · exact .inl ⟨by omega, hf.fall (by omega) _ hmem⟩
theorem Aw.wants {w0 w : World} {g gl : Nat} {a : Auc} (h : Aw w0 w g gl a) (i : Nat) (hi : i < a.l.length) :
    Calls Try.prog 26 #[.pointer (some ⟨g, 0, none⟩), .int .i64 (i : Int)] w fun e w' => e = .returned (.tuple #[.int .i64 (a.l.getD i (0, 0)).1, .int .i64 (a.l.getD i (0, 0)).2]) ∧ Aw w0 w' g gl a :=
  (wants_calls w g gl a h.at_ i hi).mono fun _ _ ⟨h1, d, h2⟩ => ⟨h1, by rw [h2]; exact h.drewN d⟩
theorem Aw.round2 {w0 w : World} {g gl : Nat} {a : Auc} (h : Aw w0 w g gl a) : Calls Try.prog 21 #[.pointer (some ⟨g, 0, none⟩)] w fun e w' => e = .returned (.int .i64 a.round) ∧ Aw w0 w' g gl a :=
  h.round.mono fun _ _ ⟨h1, h2⟩ => ⟨h1, by rw [h2]; exact h⟩
theorem Aw.price2 {w0 w : World} {g gl : Nat} {a : Auc} (h : Aw w0 w g gl a) : Calls Try.prog 20 #[.pointer (some ⟨g, 0, none⟩)] w fun e w' => e = .returned (.int .i64 a.price) ∧ Aw w0 w' g gl a :=
  h.price.mono fun _ _ ⟨h1, d, h2⟩ => ⟨h1, by rw [h2]; exact h.drewN d⟩
theorem Aw.awake {w0 w : World} {g gl : Nat} {a : Auc} (h : Aw w0 w g gl a) : Calls Try.prog 14 #[] w fun e w' => e = .returned (.bool true) ∧ Aw w0 w' g gl a :=
  (awake_calls w).mono fun _ _ ⟨h1, h2⟩ => ⟨h1, h.below h2⟩
set_option maxHeartbeats 4000000 in
set_option maxRecDepth 100000 in
theorem ClockRises_walk (w : World) (s : Int) (_hs : (Lit.int .i64 s).wf = true) (A : Option Addr) (n c : Nat) (Z : Nat → Int) (hZ : Script w A n Z) :
    Calls Try.prog 5 #[.int .i64 s, .slice A n c] w fun e w' => e = .returned (.bool true) ∧ Below w.heap.size w w' := by
  have HZ := Lib.hid hZ
  have HB := Lib.hid (fun w => begun_calls w s none 0 0 (fun _ => 0) (.inl rfl))
  clear hZ _hs
  go_enter Try.func5, Try.ntmps5
  go_wp2_with (first
    | (go_at_call 25; (with_reducible refine (HB.out _).mono ?_); rintro e w1 hB; obtain ⟨g, gl, rfl, h⟩ := hB; have H0 := Lib.hid h; clear h))
  go_loopg [6] 101 (fun gk s6 wr => ∃ i a, gk = 101 - i ∧ i ≤ 100 ∧ s6 = .int .i64 (i : Int) ∧ Hid (Aw w wr g gl a) ∧ Hid (a.l.length = 4))
  case atStart => exact ⟨0, _, rfl, by omega, rfl, H0, Lib.hid rfl⟩
  case round =>
    clear H0
    obtain ⟨i, a, rfl, hi, rfl, H, hl4⟩ := hrel
    have i0 : (0 : Int) ≤ (i : Int) := by omega
    by_cases hgo : i < n ∧ i < 100
    · obtain ⟨hin, hi100⟩ := hgo
      have i100 : (i : Int) < 100 := by omega
      have hinI : (i : Int) < (n : Int) := by omega
      obtain ⟨b, o, rfl⟩ := HZ.out.at_ hin
      have HC := Lib.hid (fun w' hb => HZ.out.cells (w' := w') hin hb)
      obtain ⟨z0, z1, z2⟩ := HC.out wr H.out.all
      generalize Z (i * 3) = y0 at z0 HC
      generalize Z (i * 3 + 1) = y1 at z1 HC
      generalize Z (i * 3 + 2) = y2 at z2 HC
      have hk3 := arnd_lt y0 (below := 3) (by omega)
      have HK := Lib.hid (fun w => around3 y0 w)
      obtain ⟨k, hk⟩ : ∃ k, Hid (arnd y0 3 = k) := ⟨_, Lib.hid rfl⟩
      rw [hk.out] at HK hk3
      have hro := H.out.at_.ok.lap
      obtain ⟨P, hP⟩ : ∃ P, Hid (a.price = P) := ⟨_, Lib.hid rfl⟩
      obtain ⟨R, hR⟩ : ∃ R, Hid (a.round = R) := ⟨_, Lib.hid rfl⟩
      have hRb : R ≤ 1099511627777 := by rw [← hR.out]; omega
      have hR1 : 1 ≤ R := by rw [← hR.out]; exact H.out.at_.ok.round
      clear hro
      go_upto_region 8 with (first
        | (go_at_call 20; (with_reducible refine (H.out.price).mono ?_); rintro e w1 ⟨rfl, d, rfl⟩; have Hd := Lib.hid (H.out.drewN d))
        | (go_at_call 21; (with_reducible refine (Hd.out.round).mono ?_); rintro e w1 ⟨rfl, rfl⟩))
      rw [hP.out, hR.out]
      generalize hwz : World.drewN _ _ = wz at Hd
      clear H hwz z0 z1 z2
      have H := Hd
      clear Hd
      obtain ⟨z0, z1, z2⟩ := HC.out wz H.out.all
      by_cases h2 : k = 2
      · have hb2 : ((k : Int) == 2) = true := by subst h2; rfl
        clear h2
        go_upto_region 11 with (first
          | (go_at_call 17; (with_reducible refine (HK.out _).mono ?_); rintro e w1 ⟨rfl, rfl⟩)
          | (go_at_call 23; (with_reducible refine (H.out.next).mono ?_); rintro e w1 ⟨rfl, h⟩; have H1' := Lib.hid h; clear h))
        obtain ⟨a', ha'⟩ : ∃ a', Hid (a.next.1 = a') := ⟨_, Lib.hid rfl⟩
        have hgo1 : P ≤ a'.price ∧ R ≤ a'.round ∧ a'.round ≤ R + 1 ∧ a'.l.length = 4 := by
          rw [← ha'.out, ← hP.out, ← hR.out, ← hl4.out]
          exact Auc.next_goes a H.out.at_.ok
        have H1 := Lib.hid (H1'.out)
        rw [ha'.out] at H1
        obtain ⟨q1, q2, q3, q4⟩ := hgo1
        have hl4' := Lib.hid q4
        have hok' := Lib.hid H1.out.at_.ok
        have hfr' := Lib.hid H1.out.fair
        have HP' : Hid (∀ w1, Aw w w1 g gl a' → Calls Try.prog 20 #[.pointer (some ⟨g, 0, none⟩)] w1 fun e w' => e = .returned (.int .i64 a'.price) ∧ Aw w w' g gl a') := Lib.hid fun w1 h => h.price2
        have HR' : Hid (∀ w1, Aw w w1 g gl a' → Calls Try.prog 21 #[.pointer (some ⟨g, 0, none⟩)] w1 fun e w' => e = .returned (.int .i64 a'.round) ∧ Aw w w' g gl a') := Lib.hid fun w1 h => h.round2
        have htl : Hid (∀ j, j < 4 → 0 ≤ (a'.l.getD j (0, 0)).2 ∧ (1 < a'.round ∧ (a'.l.getD j (0, 0)).2 ≤ (a'.l.getD j (0, 0)).1 ∨ a'.round = 1 ∧ (a'.l.getD j (0, 0)).1 = 0)) := Lib.hid fun j hj => Auc.tells hok'.out hfr'.out (by rw [hl4'.out]; exact hj)
        generalize a'.price = P' at q1 HP'
        generalize a'.round = R' at q2 q3 HR' htl
        clear q4 H1' H
        go_upto_region 13 with (first
          | (go_at_call 20; (with_reducible refine (HP'.out _ H1.out).mono ?_); rintro e w2 ⟨rfl, h⟩; have H2 := Lib.hid h; clear h)
          | (go_at_call 21; first
              | ((with_reducible refine (HR'.out _ H3.out).mono ?_); rintro e w4 ⟨rfl, h⟩; have H4 := Lib.hid h; clear h)
              | ((with_reducible refine (HR'.out _ H2.out).mono ?_); rintro e w3 ⟨rfl, h⟩; have H3 := Lib.hid h; clear h)))
        go_wp2
        clear H1 H2 H3 hb2
        go_loopg [9] 5 (fun gk s9 wr => ∃ j, gk = 5 - j ∧ j ≤ 4 ∧ s9 = .int .i64 (j : Int) ∧ Hid (Aw w wr g gl a'))
        case atStart => exact ⟨0, rfl, Nat.zero_le _, rfl, H4⟩
        case round =>
          clear H4
          obtain ⟨j, rfl, hj, rfl, H⟩ := hrel
          have j0 : (0 : Int) ≤ (j : Int) := by omega
          by_cases hj4 : j < 4
          · have j4 : (j : Int) < 4 := by omega
            have HW : Hid (∀ w1, Aw w w1 g gl a' → Calls Try.prog 26 #[.pointer (some ⟨g, 0, none⟩), .int .i64 (j : Int)] w1 fun e w' => e = .returned (.tuple #[.int .i64 (a'.l.getD j (0, 0)).1, .int .i64 (a'.l.getD j (0, 0)).2]) ∧ Aw w w' g gl a') := Lib.hid fun w1 h => h.wants j (by rw [hl4'.out]; exact hj4)
            obtain ⟨t0, t1⟩ := htl.out j hj4
            generalize (a'.l.getD j (0, 0)).1 = p1 at HW t1
            generalize (a'.l.getD j (0, 0)).2 = p2 at HW t0 t1
            rcases t1 with ⟨u1, u2⟩ | ⟨u1, u2⟩
            · have u3 : (R' == 1) = false := by simp; omega
              go_wp2_with (first
                | (go_at_call 26; (with_reducible refine (HW.out _ H.out).mono ?_); rintro e w2 ⟨rfl, h⟩; have K1 := Lib.hid h; clear h)
                | (go_at_call 21; first
                    | ((with_reducible refine (HR'.out _ K2.out).mono ?_); rintro e w4 ⟨rfl, h⟩; have K3 := Lib.hid h; clear h)
                    | ((with_reducible refine (HR'.out _ K1.out).mono ?_); rintro e w3 ⟨rfl, h⟩; have K2 := Lib.hid h; clear h)))
              go_roundg (5 - (j + 1))
              case measure => omega
              case rel => exact ⟨j + 1, rfl, by omega, by go_num, K3⟩
            · subst u1
              subst u2
              go_wp2_with (first
                | (go_at_call 26; (with_reducible refine (HW.out _ H.out).mono ?_); rintro e w2 ⟨rfl, h⟩; have K1 := Lib.hid h; clear h)
                | (go_at_call 21; first
                    | ((with_reducible refine (HR'.out _ K2.out).mono ?_); rintro e w4 ⟨rfl, h⟩; have K3 := Lib.hid h; clear h)
                    | ((with_reducible refine (HR'.out _ K1.out).mono ?_); rintro e w3 ⟨rfl, h⟩; have K2 := Lib.hid h; clear h)))
              go_roundg (5 - (j + 1))
              case measure => omega
              case rel => exact ⟨j + 1, rfl, by omega, by go_num, K3⟩
          · obtain rfl : j = 4 := by omega
            go_wp2
            go_roundg (101 - (i + 1))
            case measure => omega
            case rel => exact ⟨i + 1, a', rfl, by omega, by go_num, H, hl4'⟩
      · have hb2 : ((k : Int) == 2) = false := by simp; omega
        clear h2
        go_upto_region 10 with (first
          | (go_at_call 17; (with_reducible refine (HK.out _).mono ?_); rintro e w1 ⟨rfl, rfl⟩))
        go_still_tail 11, (by kernel_rfl)
        change wpList _ _ _ _ _ (World.drew _)
        have HBd := Lib.hid ((H.out.drewN 1).bid y1 y2)
        go_upto_region 11 with (first
          | (go_at_call 19; (refine HBd.out.mono ?_); rintro e w1 ⟨rfl, h⟩; have H1' := Lib.hid h; clear h))
        obtain ⟨a', ha'⟩ : ∃ a', Hid ((a.bid y1 y2).1 = a') := ⟨_, Lib.hid rfl⟩
        have hgo1 : P ≤ a'.price ∧ R ≤ a'.round ∧ a'.round ≤ R + 1 ∧ a'.l.length = 4 := by
          rw [← ha'.out, ← hP.out, ← hR.out, ← hl4.out]
          exact ⟨Int.le_of_eq (Auc.bid_same a y1 y2).1.symm, Int.le_of_eq (Auc.bid_same a y1 y2).2.1.symm, by rw [(Auc.bid_same a y1 y2).2.1]; omega, (Auc.bid_same a y1 y2).2.2⟩
        have H1 := Lib.hid (H1'.out)
        rw [ha'.out] at H1
        obtain ⟨q1, q2, q3, q4⟩ := hgo1
        have hl4' := Lib.hid q4
        have hok' := Lib.hid H1.out.at_.ok
        have hfr' := Lib.hid H1.out.fair
        have HP' : Hid (∀ w1, Aw w w1 g gl a' → Calls Try.prog 20 #[.pointer (some ⟨g, 0, none⟩)] w1 fun e w' => e = .returned (.int .i64 a'.price) ∧ Aw w w' g gl a') := Lib.hid fun w1 h => h.price2
        have HR' : Hid (∀ w1, Aw w w1 g gl a' → Calls Try.prog 21 #[.pointer (some ⟨g, 0, none⟩)] w1 fun e w' => e = .returned (.int .i64 a'.round) ∧ Aw w w' g gl a') := Lib.hid fun w1 h => h.round2
        have htl : Hid (∀ j, j < 4 → 0 ≤ (a'.l.getD j (0, 0)).2 ∧ (1 < a'.round ∧ (a'.l.getD j (0, 0)).2 ≤ (a'.l.getD j (0, 0)).1 ∨ a'.round = 1 ∧ (a'.l.getD j (0, 0)).1 = 0)) := Lib.hid fun j hj => Auc.tells hok'.out hfr'.out (by rw [hl4'.out]; exact hj)
        generalize a'.price = P' at q1 HP'
        generalize a'.round = R' at q2 q3 HR' htl
        clear q4 H1' H
        go_upto_region 13 with (first
          | (go_at_call 20; (with_reducible refine (HP'.out _ H1.out).mono ?_); rintro e w2 ⟨rfl, h⟩; have H2 := Lib.hid h; clear h)
          | (go_at_call 21; first
              | ((with_reducible refine (HR'.out _ H3.out).mono ?_); rintro e w4 ⟨rfl, h⟩; have H4 := Lib.hid h; clear h)
              | ((with_reducible refine (HR'.out _ H2.out).mono ?_); rintro e w3 ⟨rfl, h⟩; have H3 := Lib.hid h; clear h)))
        go_wp2
        clear H1 H2 H3 hb2
        go_loopg [9] 5 (fun gk s9 wr => ∃ j, gk = 5 - j ∧ j ≤ 4 ∧ s9 = .int .i64 (j : Int) ∧ Hid (Aw w wr g gl a'))
        case atStart => exact ⟨0, rfl, Nat.zero_le _, rfl, H4⟩
        case round =>
          clear H4
          obtain ⟨j, rfl, hj, rfl, H⟩ := hrel
          have j0 : (0 : Int) ≤ (j : Int) := by omega
          by_cases hj4 : j < 4
          · have j4 : (j : Int) < 4 := by omega
            have HW : Hid (∀ w1, Aw w w1 g gl a' → Calls Try.prog 26 #[.pointer (some ⟨g, 0, none⟩), .int .i64 (j : Int)] w1 fun e w' => e = .returned (.tuple #[.int .i64 (a'.l.getD j (0, 0)).1, .int .i64 (a'.l.getD j (0, 0)).2]) ∧ Aw w w' g gl a') := Lib.hid fun w1 h => h.wants j (by rw [hl4'.out]; exact hj4)
            obtain ⟨t0, t1⟩ := htl.out j hj4
            generalize (a'.l.getD j (0, 0)).1 = p1 at HW t1
            generalize (a'.l.getD j (0, 0)).2 = p2 at HW t0 t1
            rcases t1 with ⟨u1, u2⟩ | ⟨u1, u2⟩
            · have u3 : (R' == 1) = false := by simp; omega
              go_wp2_with (first
                | (go_at_call 26; (with_reducible refine (HW.out _ H.out).mono ?_); rintro e w2 ⟨rfl, h⟩; have K1 := Lib.hid h; clear h)
                | (go_at_call 21; first
                    | ((with_reducible refine (HR'.out _ K2.out).mono ?_); rintro e w4 ⟨rfl, h⟩; have K3 := Lib.hid h; clear h)
                    | ((with_reducible refine (HR'.out _ K1.out).mono ?_); rintro e w3 ⟨rfl, h⟩; have K2 := Lib.hid h; clear h)))
              go_roundg (5 - (j + 1))
              case measure => omega
              case rel => exact ⟨j + 1, rfl, by omega, by go_num, K3⟩
            · subst u1
              subst u2
              go_wp2_with (first
                | (go_at_call 26; (with_reducible refine (HW.out _ H.out).mono ?_); rintro e w2 ⟨rfl, h⟩; have K1 := Lib.hid h; clear h)
                | (go_at_call 21; first
                    | ((with_reducible refine (HR'.out _ K2.out).mono ?_); rintro e w4 ⟨rfl, h⟩; have K3 := Lib.hid h; clear h)
                    | ((with_reducible refine (HR'.out _ K1.out).mono ?_); rintro e w3 ⟨rfl, h⟩; have K2 := Lib.hid h; clear h)))
              go_roundg (5 - (j + 1))
              case measure => omega
              case rel => exact ⟨j + 1, rfl, by omega, by go_num, K3⟩
          · obtain rfl : j = 4 := by omega
            go_wp2
            go_roundg (101 - (i + 1))
            case measure => omega
            case rel => exact ⟨i + 1, a', rfl, by omega, by go_num, H, hl4'⟩
    · by_cases hin : i < n
      · have hi100 : ¬ i < 100 := fun h => hgo ⟨hin, h⟩
        obtain rfl : i = 100 := by omega
        clear hgo
        go_wp2_with (first | (go_at_call 14; (with_reducible refine (H.out.awake).mono ?_); rintro e w1 ⟨rfl, h⟩; have H1 := Lib.hid h; clear h))
        go_ret
        exact ⟨rfl, H1.out.all⟩
      · clear hgo
        go_wp2_with (first | (go_at_call 14; (with_reducible refine (H.out.awake).mono ?_); rintro e w1 ⟨rfl, h⟩; have H1 := Lib.hid h; clear h))
        go_ret
        exact ⟨rfl, H1.out.all⟩
end Go.Proofs.Ytccmafmeblojpaa
