/- The walk of ClockSells: what is sold is no more than there is, at a price at which that was wanted. -/
import Derived.Test.YtccmafmeblojpaaSells
namespace Go.Proofs.Ytccmafmeblojpaa
open Go.RowKit
theorem Auc.four_ok (s : Int) (Z : Nat → Int) : ∀ i, ((Auc.four s).acts Z i).Ok ∧ ((Auc.four s).acts Z i).Fair
  | 0 => by
    have := arnd_lt s (below := 300) (by omega)
    exact ⟨fresh_ok (by omega) (by omega) (by omega) (by omega), Auc.Fair.fresh _ _ _ _⟩
  | i + 1 => by
    obtain ⟨h1, h2⟩ := Auc.four_ok s Z i
    rw [Auc.acts]
    unfold Auc.act
    split
    · exact ⟨h1.next, h2.next h1⟩
    · exact ⟨h1.bid _ _, h2.bid _ _⟩
theorem sale_some {w0 w : World} {g gl : Nat} {a : Auc} (h : Aw w0 w g gl a) (p : Int) (L : List Int) (h1 : a.sale.1 = p) (h2 : a.sale.2.1 = L) (h3 : a.sale.2.2 = 0) (h4 : L.length = 4) :
    Calls Try.prog 27 #[.pointer (some ⟨g, 0, none⟩)] w fun e w' => ∃ gs, e = .returned (.tuple #[.int .i64 p, .slice (some ⟨gs, 0, none⟩) 4 4, .int .i64 0]) ∧ Blk w' gs 3 (icells L).toArray ∧ Aw w0 w' g gl a := by
  refine h.sale.mono fun e w' ⟨v, e1, e2, e3⟩ => ?_
  rw [h1, h3] at e1
  rw [h2] at e2
  rcases e2 with ⟨e4, _⟩ | ⟨gs, rfl, _, hB⟩
  · rw [e4] at h4; cases h4
  · rw [h4] at e1; exact ⟨gs, e1, hB, e3⟩
theorem sale_none {w0 w : World} {g gl : Nat} {a : Auc} (h : Aw w0 w g gl a) (h0 : a.state = 0) :
    Calls Try.prog 27 #[.pointer (some ⟨g, 0, none⟩)] w fun e w' => ∃ A, e = .returned (.tuple #[.int .i64 0, .slice A 0 0, .int .i64 3]) ∧ Aw w0 w' g gl a := by
  refine h.sale.mono fun e w' ⟨v, e1, e2, e3⟩ => ?_
  have E : a.sale = (0, [], 3) := by unfold Auc.sale; rw [if_pos h0]
  rw [E] at e1 e2
  rcases e2 with ⟨_, rfl⟩ | ⟨gs, rfl, _, _⟩
  · exact ⟨_, e1, e3⟩
  · exact ⟨_, e1, e3⟩
theorem Aw.state2 {w0 w : World} {g gl : Nat} {a : Auc} (h : Aw w0 w g gl a) (x : Int) (hx : a.state = x) : Calls Try.prog 24 #[.pointer (some ⟨g, 0, none⟩)] w fun e w' => e = .returned (.int .i64 x) ∧ Aw w0 w' g gl a :=
  h.state.mono fun _ _ ⟨h1, h2⟩ => ⟨by rw [h1, hx], by rw [h2]; exact h⟩
/-- A sold auction, and what its sale gave. -/
structure SW (w0 w : World) (g gl : Nat) (a : Auc) (gs : Nat) (L : List Int) : Prop where
  aw : Aw w0 w g gl a
  blk : Blk w gs 3 (icells L).toArray
section
variable {w0 w w' : World} {g gl gs : Nat} {a : Auc} {L : List Int}
theorem SW.keep (h : SW w0 w g gl a gs L) (hb : Below w.heap.size w w') : SW w0 w' g gl a gs L := ⟨h.aw.below hb, h.blk.below hb h.blk.lt⟩
theorem SW.price (h : SW w0 w g gl a gs L) (x : Int) (hx : a.price = x) : Calls Try.prog 20 #[.pointer (some ⟨g, 0, none⟩)] w fun e w' => e = .returned (.int .i64 x) ∧ SW w0 w' g gl a gs L :=
  h.aw.price.mono fun _ _ ⟨h1, d, h2⟩ => ⟨by rw [h1, hx], by rw [h2]; exact h.keep (below_self _ d)⟩
theorem SW.round (h : SW w0 w g gl a gs L) (x : Int) (hx : a.round = x) : Calls Try.prog 21 #[.pointer (some ⟨g, 0, none⟩)] w fun e w' => e = .returned (.int .i64 x) ∧ SW w0 w' g gl a gs L :=
  h.aw.round.mono fun _ _ ⟨h1, h2⟩ => ⟨by rw [h1, hx], by rw [h2]; exact h⟩
theorem SW.state (h : SW w0 w g gl a gs L) (x : Int) (hx : a.state = x) : Calls Try.prog 24 #[.pointer (some ⟨g, 0, none⟩)] w fun e w' => e = .returned (.int .i64 x) ∧ SW w0 w' g gl a gs L :=
  h.aw.state.mono fun _ _ ⟨h1, h2⟩ => ⟨by rw [h1, hx], by rw [h2]; exact h⟩
theorem SW.demand (h : SW w0 w g gl a gs L) (x : Int) (hx : a.demand = x) : Calls Try.prog 22 #[.pointer (some ⟨g, 0, none⟩)] w fun e w' => e = .returned (.int .i64 x) ∧ SW w0 w' g gl a gs L :=
  (demand_calls w g gl a h.aw.at_).mono fun _ _ ⟨h1, h2⟩ => ⟨by rw [h1, hx], h.keep h2⟩
theorem SW.awake (h : SW w0 w g gl a gs L) : Calls Try.prog 14 #[] w fun e w' => e = .returned (.bool true) ∧ SW w0 w' g gl a gs L :=
  (awake_calls w).mono fun _ _ ⟨h1, h2⟩ => ⟨h1, h.keep h2⟩
theorem SW.wants (h : SW w0 w g gl a gs L) (i : Nat) (hi : i < a.l.length) (p1 p2 : Int) (h1 : (a.l.getD i (0, 0)).1 = p1) (h2 : (a.l.getD i (0, 0)).2 = p2) :
    Calls Try.prog 26 #[.pointer (some ⟨g, 0, none⟩), .int .i64 (i : Int)] w fun e w' => e = .returned (.tuple #[.int .i64 p1, .int .i64 p2]) ∧ SW w0 w' g gl a gs L :=
  (wants_calls w g gl a h.aw.at_ i hi).mono fun _ _ ⟨h3, d, h4⟩ => ⟨by rw [h3, h1, h2], by rw [h4]; exact h.keep (below_self _ d)⟩
theorem SW.at_ (h : SW w0 w g gl a gs L) {i : Nat} (hi : i < L.length) : w.cell? ⟨gs, i, none⟩ = some (.int .i64 (L.getD i 0)) := by
  rw [h.blk.cell, List.getElem?_toArray, icells_get _ hi]
end
set_option maxHeartbeats 4000000 in
set_option maxRecDepth 100000 in
theorem ClockSells_walk (w : World) (s : Int) (_hs : (Lit.int .i64 s).wf = true) (A : Option Addr) (n c : Nat) (Z : Nat → Int) (hZ : Script w A n Z) :
    Calls Try.prog 6 #[.int .i64 s, .slice A n c] w fun e w' => e = .returned (.bool true) ∧ Below w.heap.size w w' := by
  have HB := Lib.hid (begun_calls w s A n c Z hZ)
  have hinv := Auc.four_inv s Z (min n 100) (by omega)
  obtain ⟨hok, hfr⟩ := Auc.four_ok s Z (min n 100)
  generalize (Auc.four s).acts Z (min n 100) = a at HB hinv hok hfr
  have hr3 := arnd_lt s (below := 300) (by omega)
  have HR := Lib.hid (fun w => around300 s w)
  generalize arnd s 300 = r at hinv HR hr3
  have hlen := Lib.hid hinv.len
  have hrd := hok.round
  clear hZ _hs
  rcases hinv.state with h0 | h1
  · have H0s := Lib.hid h0
    clear h0 hinv hok hfr hrd
    go_enter Try.func6, Try.ntmps6
    go_wp2_with (first
      | (go_at_call 25; (refine HB.out.mono ?_); rintro e w1 hB; obtain ⟨g, gl, rfl, h⟩ := hB; have K0 := Lib.hid h; clear h)
      | (go_at_call 17; (with_reducible refine (HR.out _).mono ?_); rintro e w2 ⟨rfl, rfl⟩)
      | (go_at_call 27; (with_reducible refine (sale_none K0.out H0s.out).mono ?_); rintro e w3 ⟨A', rfl, h⟩; have K1 := Lib.hid h; clear h)
      | (go_at_call 24; (with_reducible refine (K1.out.state2 0 H0s.out).mono ?_); rintro e w3 ⟨rfl, h⟩; have K2 := Lib.hid h; clear h)
      | (go_at_call 14; (with_reducible refine (K2.out.awake).mono ?_); rintro e w3 ⟨rfl, h⟩; have K3 := Lib.hid h; clear h))
    go_ret
    exact ⟨rfl, K3.out.all⟩
  · have H1s := Lib.hid h1
    obtain ⟨s2, sl, scases⟩ := Auc.sale_one hok hfr h1
    have hS2 := Lib.hid s2
    have hsup := hinv.supply
    have hstep := hinv.step
    have hdem : 0 ≤ a.demand ∧ a.demand ≤ 16777216 := by
      have h3 := Auc.nows_bound hok.each
      have h4 := hinv.len
      have h5 : a.demand = Auc.nows a.l := rfl
      rw [h4] at h3
      omega
    have hnow : Hid (∀ i, i < 4 → 0 ≤ (a.l.getD i (0, 0)).1 ∧ 0 ≤ (a.l.getD i (0, 0)).2 ∧ (a.l.getD i (0, 0)).2 ≤ 1048576 ∧ (a.l.getD i (0, 0)).1 ≤ 1048576) := Lib.hid fun i hi => by
      have hl : i < a.l.length := by rw [hlen.out]; exact hi
      have hmem : a.l.getD i (0, 0) ∈ a.l := by
        rw [List.getD_eq_getElem?_getD, List.getElem?_eq_getElem hl]; exact List.getElem_mem hl
      have := hok.each _ hmem
      omega
    have hpb : Hid (0 ≤ a.price ∧ a.price ≤ 1099511627776) := Lib.hid ⟨by
      have h3 := hok.lap
      have h4 := hok.start
      have h5 : a.price = a.start + (a.round - 1) * a.step := rfl
      omega, hok.price⟩
    obtain ⟨L, hL⟩ : ∃ L, Hid (a.sale.2.1 = L) := ⟨_, Lib.hid rfl⟩
    rw [hL.out] at sl scases
    rw [hlen.out] at sl
    have hL4 := Lib.hid sl
    rw [hsup, hstep, hlen.out] at scases
    have hndem : a.nowl.sum = a.demand := rfl
    clear hinv hok hfr h1 s2 sl hsup hstep
    rcases scases with ⟨e1, e2, e3 | e3⟩ | ⟨e1, e2, e3, e4, e5⟩
    · have hLn := Lib.hid e2
      clear e2
      have hgot : Hid (∀ i, i < 4 → L.getD i 0 = (a.l.getD i (0, 0)).2) := Lib.hid fun i hi => by rw [hLn.out]; exact Auc.nowl_at a (by rw [hlen.out]; exact hi)
      obtain ⟨R, hR⟩ : ∃ R, Hid (a.round = R) := ⟨_, Lib.hid rfl⟩
      obtain ⟨P, hP⟩ : ∃ P, Hid (a.price = P) := ⟨_, Lib.hid rfl⟩
      obtain ⟨D, hD⟩ : ∃ D, Hid (a.demand = D) := ⟨_, Lib.hid rfl⟩
      have pb0 := hpb.out.1
      have pb1 := hpb.out.2
      rw [hP.out] at pb0 pb1 e1
      have hpv := Lib.hid e1
      have hLb : Hid (∀ g ∈ L, 0 ≤ g ∧ g ≤ 1048576) := Lib.hid fun x hx => by
        obtain ⟨i, hi⟩ := List.getElem?_of_mem hx
        have hil : i < L.length := (List.getElem?_eq_some_iff.1 hi).1
        rw [hL4.out] at hil
        have h1 := hnow.out i hil
        have h2 := hgot.out i hil
        have hx2 : L.getD i 0 = x := by rw [List.getD_eq_getElem?_getD, hi]; rfl
        rw [hx2] at h2
        omega
      have hRR := hR.out
      have hDD := hD.out
      obtain ⟨u1, u2⟩ := e3; rw [hRR] at u1; rw [hDD] at u2
      clear e1 hrd hdem hpb hndem
      go_enter Try.func6, Try.ntmps6
      go_wp2_with (first
        | (go_at_call 25; (refine HB.out.mono ?_); rintro e w1 hB; obtain ⟨g, gl, rfl, h⟩ := hB; have K0 := Lib.hid h; clear h)
        | (go_at_call 17; (with_reducible refine (HR.out _).mono ?_); rintro e w2 ⟨rfl, rfl⟩)
        | (go_at_call 27; (with_reducible refine (sale_some K0.out P L hpv.out hL.out hS2.out hL4.out).mono ?_); rintro e w3 ⟨gs, rfl, hBl, h⟩; have K1 : Hid (SW _ _ g gl a gs L) := Lib.hid ⟨h, hBl⟩; clear h hBl)
        | (go_at_call 24; (with_reducible refine (K1.out.state 1 H1s.out).mono ?_); rintro e w4 ⟨rfl, h⟩; have K2 := Lib.hid h; clear h))
      go_loopg [10, 11] 5 (fun gk s10 s11 wr => ∃ i, gk = 5 - i ∧ i ≤ 4 ∧ s11 = .int .i64 (i : Int) ∧ s10 = .int .i64 ((L.take i).sum) ∧ Hid (SW w wr g gl a gs L))
      case atStart => exact ⟨0, rfl, Nat.zero_le _, rfl, rfl, K2⟩
      case round =>
        clear K0 K1 K2
        obtain ⟨i, rfl, hi, rfl, rfl, K⟩ := hrel
        have i0 : (0 : Int) ≤ (i : Int) := by omega
        by_cases hlt : i < 4
        · have i4 : (i : Int) < 4 := by omega
          have hb := Sh.sum_bound (l := L.take i) fun g hg => hLb.out g (List.mem_of_mem_take hg)
          have hbl : (L.take i).length ≤ 4 := by rw [List.length_take]; omega
          obtain ⟨b0, b1⟩ := hb
          have b2 : (L.take i).sum ≤ 4194304 := by omega
          clear b1 hbl
          have hsn : Hid ((L.take (i + 1)).sum = (L.take i).sum + L.getD i 0) := Lib.hid (Sh.sum_take L (by rw [hL4.out]; exact hlt))
          obtain ⟨n0, n1, n2, n3⟩ := hnow.out i hlt
          have hg1 := hgot.out i hlt
          obtain ⟨p1, hp1⟩ : ∃ p1, Hid ((a.l.getD i (0, 0)).1 = p1) := ⟨_, Lib.hid rfl⟩
          obtain ⟨p2, hp2⟩ : ∃ p2, Hid ((a.l.getD i (0, 0)).2 = p2) := ⟨_, Lib.hid rfl⟩
          rw [hp1.out] at n0 n3
          rw [hp2.out] at n1 n2
          rw [hp2.out] at hg1
          have HWt : Hid (∀ w1, SW w w1 g gl a gs L → Calls Try.prog 26 #[.pointer (some ⟨g, 0, none⟩), .int .i64 (i : Int)] w1 fun e w' => e = .returned (.tuple #[.int .i64 p1, .int .i64 p2]) ∧ SW w w' g gl a gs L) := Lib.hid fun w1 h => h.wants i (by rw [hlen.out]; exact hlt) p1 p2 hp1.out hp2.out
          have hcell : Hid (∀ w1, SW w w1 g gl a gs L → w1.cell? ⟨gs, i, none⟩ = some (.int .i64 (L.getD i 0))) := Lib.hid fun w1 h => h.at_ (by rw [hL4.out]; exact hlt)
          generalize L.getD i 0 = y at hsn hcell hg1
          obtain rfl : y = p2 := hg1
          have hmx : y ≤ max p1 y := by omega
          go_wp2_with (first
            | (go_at_call 26; (with_reducible refine (HWt.out _ K.out).mono ?_); rintro e w2 ⟨rfl, h⟩; have K1 := Lib.hid h; have cy := hcell.out _ h; clear h)
            | (go_at_call 20; (with_reducible refine (K1.out.price P hP.out).mono ?_); rintro e w3 ⟨rfl, h⟩; have K2 := Lib.hid h; clear h))
          all_goals
            go_roundg (5 - (i + 1))
            case measure => omega
            case rel => exact ⟨i + 1, rfl, by omega, by go_num, by rw [hsn.out], by first | exact K2 | exact K1⟩
        · obtain rfl : i = 4 := by omega
          rw [List.take_of_length_le (by rw [hL4.out]; exact Nat.le_refl _)]
          have hsum : Hid (L.sum = D) := Lib.hid (by rw [hLn.out, ← hDD]; rfl)
          rw [hsum.out]
          clear hRR hDD
          subst u1
          have u3 : D ≤ 1 + (r : Int) := u2
          have hPP : (P == P) = true := by simp
          go_wp2_with (first
            | (go_at_call 21; (with_reducible refine (K.out.round 1 hR.out).mono ?_); rintro e w2 ⟨rfl, h⟩; have K1 := Lib.hid h; clear h)
            | (go_at_call 20; (with_reducible refine (K1.out.price P hP.out).mono ?_); rintro e w3 ⟨rfl, h⟩; have K2 := Lib.hid h; clear h))
          go_ret
          exact ⟨rfl, K2.out.aw.all⟩
    · have hLn := Lib.hid e2
      clear e2
      have hgot : Hid (∀ i, i < 4 → L.getD i 0 = (a.l.getD i (0, 0)).2) := Lib.hid fun i hi => by rw [hLn.out]; exact Auc.nowl_at a (by rw [hlen.out]; exact hi)
      obtain ⟨R, hR⟩ : ∃ R, Hid (a.round = R) := ⟨_, Lib.hid rfl⟩
      obtain ⟨P, hP⟩ : ∃ P, Hid (a.price = P) := ⟨_, Lib.hid rfl⟩
      obtain ⟨D, hD⟩ : ∃ D, Hid (a.demand = D) := ⟨_, Lib.hid rfl⟩
      have pb0 := hpb.out.1
      have pb1 := hpb.out.2
      rw [hP.out] at pb0 pb1 e1
      have hpv := Lib.hid e1
      have hLb : Hid (∀ g ∈ L, 0 ≤ g ∧ g ≤ 1048576) := Lib.hid fun x hx => by
        obtain ⟨i, hi⟩ := List.getElem?_of_mem hx
        have hil : i < L.length := (List.getElem?_eq_some_iff.1 hi).1
        rw [hL4.out] at hil
        have h1 := hnow.out i hil
        have h2 := hgot.out i hil
        have hx2 : L.getD i 0 = x := by rw [List.getD_eq_getElem?_getD, hi]; rfl
        rw [hx2] at h2
        omega
      have hRR := hR.out
      have hDD := hD.out
      obtain ⟨u1, u2⟩ := e3; rw [hRR] at u1; rw [hDD] at u2
      clear e1 hrd hdem hpb hndem
      go_enter Try.func6, Try.ntmps6
      go_wp2_with (first
        | (go_at_call 25; (refine HB.out.mono ?_); rintro e w1 hB; obtain ⟨g, gl, rfl, h⟩ := hB; have K0 := Lib.hid h; clear h)
        | (go_at_call 17; (with_reducible refine (HR.out _).mono ?_); rintro e w2 ⟨rfl, rfl⟩)
        | (go_at_call 27; (with_reducible refine (sale_some K0.out P L hpv.out hL.out hS2.out hL4.out).mono ?_); rintro e w3 ⟨gs, rfl, hBl, h⟩; have K1 : Hid (SW _ _ g gl a gs L) := Lib.hid ⟨h, hBl⟩; clear h hBl)
        | (go_at_call 24; (with_reducible refine (K1.out.state 1 H1s.out).mono ?_); rintro e w4 ⟨rfl, h⟩; have K2 := Lib.hid h; clear h))
      go_loopg [10, 11] 5 (fun gk s10 s11 wr => ∃ i, gk = 5 - i ∧ i ≤ 4 ∧ s11 = .int .i64 (i : Int) ∧ s10 = .int .i64 ((L.take i).sum) ∧ Hid (SW w wr g gl a gs L))
      case atStart => exact ⟨0, rfl, Nat.zero_le _, rfl, rfl, K2⟩
      case round =>
        clear K0 K1 K2
        obtain ⟨i, rfl, hi, rfl, rfl, K⟩ := hrel
        have i0 : (0 : Int) ≤ (i : Int) := by omega
        by_cases hlt : i < 4
        · have i4 : (i : Int) < 4 := by omega
          have hb := Sh.sum_bound (l := L.take i) fun g hg => hLb.out g (List.mem_of_mem_take hg)
          have hbl : (L.take i).length ≤ 4 := by rw [List.length_take]; omega
          obtain ⟨b0, b1⟩ := hb
          have b2 : (L.take i).sum ≤ 4194304 := by omega
          clear b1 hbl
          have hsn : Hid ((L.take (i + 1)).sum = (L.take i).sum + L.getD i 0) := Lib.hid (Sh.sum_take L (by rw [hL4.out]; exact hlt))
          obtain ⟨n0, n1, n2, n3⟩ := hnow.out i hlt
          have hg1 := hgot.out i hlt
          obtain ⟨p1, hp1⟩ : ∃ p1, Hid ((a.l.getD i (0, 0)).1 = p1) := ⟨_, Lib.hid rfl⟩
          obtain ⟨p2, hp2⟩ : ∃ p2, Hid ((a.l.getD i (0, 0)).2 = p2) := ⟨_, Lib.hid rfl⟩
          rw [hp1.out] at n0 n3
          rw [hp2.out] at n1 n2
          rw [hp2.out] at hg1
          have HWt : Hid (∀ w1, SW w w1 g gl a gs L → Calls Try.prog 26 #[.pointer (some ⟨g, 0, none⟩), .int .i64 (i : Int)] w1 fun e w' => e = .returned (.tuple #[.int .i64 p1, .int .i64 p2]) ∧ SW w w' g gl a gs L) := Lib.hid fun w1 h => h.wants i (by rw [hlen.out]; exact hlt) p1 p2 hp1.out hp2.out
          have hcell : Hid (∀ w1, SW w w1 g gl a gs L → w1.cell? ⟨gs, i, none⟩ = some (.int .i64 (L.getD i 0))) := Lib.hid fun w1 h => h.at_ (by rw [hL4.out]; exact hlt)
          generalize L.getD i 0 = y at hsn hcell hg1
          obtain rfl : y = p2 := hg1
          have hmx : y ≤ max p1 y := by omega
          go_wp2_with (first
            | (go_at_call 26; (with_reducible refine (HWt.out _ K.out).mono ?_); rintro e w2 ⟨rfl, h⟩; have K1 := Lib.hid h; have cy := hcell.out _ h; clear h)
            | (go_at_call 20; (with_reducible refine (K1.out.price P hP.out).mono ?_); rintro e w3 ⟨rfl, h⟩; have K2 := Lib.hid h; clear h))
          all_goals
            go_roundg (5 - (i + 1))
            case measure => omega
            case rel => exact ⟨i + 1, rfl, by omega, by go_num, by rw [hsn.out], by first | exact K2 | exact K1⟩
        · obtain rfl : i = 4 := by omega
          rw [List.take_of_length_le (by rw [hL4.out]; exact Nat.le_refl _)]
          have hsum : Hid (L.sum = 1 + (r : Int)) := Lib.hid (by rw [hLn.out, ← u2, ← hDD]; rfl)
          rw [hsum.out]
          clear hRR hDD u2
          go_wp2_with (first
            | (go_at_call 21; (with_reducible refine (K.out.round R hR.out).mono ?_); rintro e w2 ⟨rfl, h⟩; have K1 := Lib.hid h; clear h)
            | (go_at_call 20; (with_reducible refine (K1.out.price P hP.out).mono ?_); rintro e w3 ⟨rfl, h⟩; have K2 := Lib.hid h; clear h))
          go_ret
          exact ⟨rfl, K2.out.aw.all⟩
    · have hgot := Lib.hid e5
      obtain ⟨R, hR⟩ : ∃ R, Hid (a.round = R) := ⟨_, Lib.hid rfl⟩
      obtain ⟨P, hP⟩ : ∃ P, Hid (a.price = P) := ⟨_, Lib.hid rfl⟩
      obtain ⟨D, hD⟩ : ∃ D, Hid (a.demand = D) := ⟨_, Lib.hid rfl⟩
      have pb0 := hpb.out.1
      have pb1 := hpb.out.2
      rw [hP.out] at pb0 pb1 e1
      have hpv := Lib.hid e1
      have hLb : Hid (∀ g ∈ L, 0 ≤ g ∧ g ≤ 1048576) := Lib.hid fun x hx => by
        obtain ⟨i, hi⟩ := List.getElem?_of_mem hx
        have hil : i < L.length := (List.getElem?_eq_some_iff.1 hi).1
        rw [hL4.out] at hil
        have h1 := hnow.out i hil
        have h2 := hgot.out i hil
        have hx2 : L.getD i 0 = x := by rw [List.getD_eq_getElem?_getD, hi]; rfl
        rw [hx2] at h2
        omega
      have hRR := hR.out
      have hDD := hD.out
      rw [hRR] at e2; rw [hDD] at e3
      clear e1 hrd hdem hpb hndem
      go_enter Try.func6, Try.ntmps6
      go_wp2_with (first
        | (go_at_call 25; (refine HB.out.mono ?_); rintro e w1 hB; obtain ⟨g, gl, rfl, h⟩ := hB; have K0 := Lib.hid h; clear h)
        | (go_at_call 17; (with_reducible refine (HR.out _).mono ?_); rintro e w2 ⟨rfl, rfl⟩)
        | (go_at_call 27; (with_reducible refine (sale_some K0.out (P - 3) L hpv.out hL.out hS2.out hL4.out).mono ?_); rintro e w3 ⟨gs, rfl, hBl, h⟩; have K1 : Hid (SW _ _ g gl a gs L) := Lib.hid ⟨h, hBl⟩; clear h hBl)
        | (go_at_call 24; (with_reducible refine (K1.out.state 1 H1s.out).mono ?_); rintro e w4 ⟨rfl, h⟩; have K2 := Lib.hid h; clear h))
      go_loopg [10, 11] 5 (fun gk s10 s11 wr => ∃ i, gk = 5 - i ∧ i ≤ 4 ∧ s11 = .int .i64 (i : Int) ∧ s10 = .int .i64 ((L.take i).sum) ∧ Hid (SW w wr g gl a gs L))
      case atStart => exact ⟨0, rfl, Nat.zero_le _, rfl, rfl, K2⟩
      case round =>
        clear K0 K1 K2
        obtain ⟨i, rfl, hi, rfl, rfl, K⟩ := hrel
        have i0 : (0 : Int) ≤ (i : Int) := by omega
        by_cases hlt : i < 4
        · have i4 : (i : Int) < 4 := by omega
          have hb := Sh.sum_bound (l := L.take i) fun g hg => hLb.out g (List.mem_of_mem_take hg)
          have hbl : (L.take i).length ≤ 4 := by rw [List.length_take]; omega
          obtain ⟨b0, b1⟩ := hb
          have b2 : (L.take i).sum ≤ 4194304 := by omega
          clear b1 hbl
          have hsn : Hid ((L.take (i + 1)).sum = (L.take i).sum + L.getD i 0) := Lib.hid (Sh.sum_take L (by rw [hL4.out]; exact hlt))
          obtain ⟨n0, n1, n2, n3⟩ := hnow.out i hlt
          have hg1 := hgot.out i hlt
          obtain ⟨p1, hp1⟩ : ∃ p1, Hid ((a.l.getD i (0, 0)).1 = p1) := ⟨_, Lib.hid rfl⟩
          obtain ⟨p2, hp2⟩ : ∃ p2, Hid ((a.l.getD i (0, 0)).2 = p2) := ⟨_, Lib.hid rfl⟩
          rw [hp1.out] at n0 n3
          rw [hp2.out] at n1 n2
          rw [hp1.out, hp2.out] at hg1
          have HWt : Hid (∀ w1, SW w w1 g gl a gs L → Calls Try.prog 26 #[.pointer (some ⟨g, 0, none⟩), .int .i64 (i : Int)] w1 fun e w' => e = .returned (.tuple #[.int .i64 p1, .int .i64 p2]) ∧ SW w w' g gl a gs L) := Lib.hid fun w1 h => h.wants i (by rw [hlen.out]; exact hlt) p1 p2 hp1.out hp2.out
          have hcell : Hid (∀ w1, SW w w1 g gl a gs L → w1.cell? ⟨gs, i, none⟩ = some (.int .i64 (L.getD i 0))) := Lib.hid fun w1 h => h.at_ (by rw [hL4.out]; exact hlt)
          generalize L.getD i 0 = y at hsn hcell hg1
          obtain ⟨g1, g2⟩ := hg1
          have hmx : y ≤ max p1 p2 := by omega
          go_wp2_with (first
            | (go_at_call 26; (with_reducible refine (HWt.out _ K.out).mono ?_); rintro e w2 ⟨rfl, h⟩; have K1 := Lib.hid h; have cy := hcell.out _ h; clear h)
            | (go_at_call 20; (with_reducible refine (K1.out.price P hP.out).mono ?_); rintro e w3 ⟨rfl, h⟩; have K2 := Lib.hid h; clear h))
          all_goals
            go_roundg (5 - (i + 1))
            case measure => omega
            case rel => exact ⟨i + 1, rfl, by omega, by go_num, by rw [hsn.out], by first | exact K2 | exact K1⟩
        · obtain rfl : i = 4 := by omega
          rw [List.take_of_length_le (by rw [hL4.out]; exact Nat.le_refl _)]
          rw [e4]
          clear hRR hDD e4 e5
          have hPP : (P - 3 == P) = false := by simp; omega
          go_wp2_with (first
            | (go_at_call 21; first
                | ((with_reducible refine (K3.out.round R hR.out).mono ?_); rintro e w5 ⟨rfl, h⟩; have K4 := Lib.hid h; clear h)
                | ((with_reducible refine (K.out.round R hR.out).mono ?_); rintro e w2 ⟨rfl, h⟩; have K1 := Lib.hid h; clear h))
            | (go_at_call 20; first
                | ((with_reducible refine (K2.out.price P hP.out).mono ?_); rintro e w4 ⟨rfl, h⟩; have K3 := Lib.hid h; clear h)
                | ((with_reducible refine (K1.out.price P hP.out).mono ?_); rintro e w3 ⟨rfl, h⟩; have K2 := Lib.hid h; clear h))
            | (go_at_call 22; (with_reducible refine (K4.out.demand D hD.out).mono ?_); rintro e w6 ⟨rfl, h⟩; have K5 := Lib.hid h; clear h)
            | (go_at_call 14; (with_reducible refine (K5.out.awake).mono ?_); rintro e w7 ⟨rfl, h⟩; have K6 := Lib.hid h; clear h))
          go_ret
          exact ⟨rfl, K6.out.aw.all⟩
end Go.Proofs.Ytccmafmeblojpaa
