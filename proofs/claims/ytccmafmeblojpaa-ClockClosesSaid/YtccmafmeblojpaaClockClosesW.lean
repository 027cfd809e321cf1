/- The walk of ClockCloses: an auction ends with the first round in which no more is wanted than there is. -/
import Derived.Test.YtccmafmeblojpaaClosesP
namespace Go.Proofs.Ytccmafmeblojpaa
open Go.RowKit
/-- The auction, and the demands of the round ahead in an array of the law's own. -/
structure CW (w0 w : World) (g gl ga : Nat) (a : Auc) (ls : List Int) : Prop where
  aw : Aw w0 w g gl a
  blk : Blk w ga 37 (icells ls).toArray
  ne : ga ≠ g
  ne2 : ga ≠ gl
  own : w0.heap.size ≤ ga
section
variable {w0 w w' : World} {g gl ga : Nat} {a : Auc} {ls : List Int}
theorem CW.keep (h : CW w0 w g gl ga a ls) (hb : Below w.heap.size w w') : CW w0 w' g gl ga a ls := ⟨h.aw.below hb, h.blk.below hb h.blk.lt, h.ne, h.ne2, h.own⟩
theorem CW.put (h : CW w0 w g gl ga a ls) (k : Nat) (n : Int) : CW w0 (w.setCell ⟨ga, k, none⟩ (.int .i64 n)) g gl ga a (ls.set k n) := by
  refine ⟨⟨⟨h.aw.at_.head.far h.ne.symm _, h.aw.at_.list.far h.ne2.symm _, h.aw.at_.ne, h.aw.at_.ok⟩, h.aw.fair, h.aw.head, h.aw.list, h.aw.all.setCell (p := ⟨ga, k, none⟩) h.own _⟩, ?_, h.ne, h.ne2, h.own⟩
  have := h.blk.set_ k (.int .i64 n)
  rw [List.setIfInBounds_toArray, icells_set] at this
  exact this
theorem CW.turn (h : CW w0 w g gl ga a ls) {a' : Auc} (hA : Aw w0 w' g gl a') (ho : Only (feet2 g gl) w w') : CW w0 w' g gl ga a' ls := by
  refine ⟨hA, ?_, h.ne, h.ne2, h.own⟩
  have e := ho.block ga h.blk.lt fun hk => hk.elim h.ne h.ne2
  unfold Blk
  rw [e]; exact h.blk
theorem CW.bid (h : CW w0 w g gl ga a ls) (who n : Int) : Calls Try.prog 19 #[.pointer (some ⟨g, 0, none⟩), .int .i64 who, .int .i64 n] w fun e w' => e = .returned (.int .i64 (a.bid who n).2) ∧ CW w0 w' g gl ga (a.bid who n).1 ls :=
  (bid_calls w g gl a h.aw.at_ who n).mono fun _ _ ⟨h1, h2, h3⟩ => ⟨h1, h.turn ⟨h2, h.aw.fair.bid who n, h.aw.head, h.aw.list, h.aw.feet h3⟩ h3⟩
theorem CW.next (h : CW w0 w g gl ga a ls) : Calls Try.prog 23 #[.pointer (some ⟨g, 0, none⟩)] w fun e w' => e = .returned (.tuple #[.bool a.next.2.1, .int .i64 a.next.2.2]) ∧ CW w0 w' g gl ga a.next.1 ls :=
  (next_calls w g gl a h.aw.at_).mono fun _ _ ⟨h1, h2, h3⟩ => ⟨h1, h.turn ⟨h2, h.aw.fair.next h.aw.at_.ok, h.aw.head, h.aw.list, h.aw.feet h3⟩ h3⟩
theorem CW.price (h : CW w0 w g gl ga a ls) (x : Int) (hx : a.price = x) : Calls Try.prog 20 #[.pointer (some ⟨g, 0, none⟩)] w fun e w' => e = .returned (.int .i64 x) ∧ CW w0 w' g gl ga a ls :=
  h.aw.price.mono fun _ _ ⟨h1, d, h2⟩ => ⟨by rw [h1, hx], by rw [h2]; exact h.keep (below_self _ d)⟩
theorem CW.round (h : CW w0 w g gl ga a ls) (x : Int) (hx : a.round = x) : Calls Try.prog 21 #[.pointer (some ⟨g, 0, none⟩)] w fun e w' => e = .returned (.int .i64 x) ∧ CW w0 w' g gl ga a ls :=
  h.aw.round.mono fun _ _ ⟨h1, h2⟩ => ⟨by rw [h1, hx], by rw [h2]; exact h⟩
theorem CW.state (h : CW w0 w g gl ga a ls) (x : Int) (hx : a.state = x) : Calls Try.prog 24 #[.pointer (some ⟨g, 0, none⟩)] w fun e w' => e = .returned (.int .i64 x) ∧ CW w0 w' g gl ga a ls :=
  h.aw.state.mono fun _ _ ⟨h1, h2⟩ => ⟨by rw [h1, hx], by rw [h2]; exact h⟩
theorem CW.demand (h : CW w0 w g gl ga a ls) (x : Int) (hx : a.demand = x) : Calls Try.prog 22 #[.pointer (some ⟨g, 0, none⟩)] w fun e w' => e = .returned (.int .i64 x) ∧ CW w0 w' g gl ga a ls :=
  (demand_calls w g gl a h.aw.at_).mono fun _ _ ⟨h1, h2⟩ => ⟨by rw [h1, hx], h.keep h2⟩
theorem CW.awake (h : CW w0 w g gl ga a ls) : Calls Try.prog 14 #[] w fun e w' => e = .returned (.bool true) ∧ CW w0 w' g gl ga a ls :=
  (awake_calls w).mono fun _ _ ⟨h1, h2⟩ => ⟨h1, h.keep h2⟩
end
theorem take_set_sum (l : List Int) {k : Nat} (h : k < l.length) (x : Int) : ((l.set k x).take (k + 1)).sum = (l.take k).sum + x := by
  rw [Sh.sum_take _ (by rw [List.length_set]; exact h), getD_set_self _ h, List.take_set_of_le (Nat.le_refl k)]
/-- Rounds that came in: n times four demands. -/
def Rounds (w : World) (A : Option Addr) (n : Nat) (Z : Nat → Int) : Prop := Row w A (n * 4) fun j => .int .i64 (Z j)
set_option maxHeartbeats 8000000 in
set_option maxRecDepth 100000 in
theorem ClockCloses_walk (w : World) (su : Int) (_h1 : (Lit.int .i64 su).wf = true) (st : Int) (_h2 : (Lit.int .i64 st).wf = true) (sp : Int) (_h3 : (Lit.int .i64 sp).wf = true) (A : Option Addr) (n c : Nat) (Z : Nat → Int) (hZ : Rounds w A n Z) :
    Calls Try.prog 4 #[.int .i64 su, .int .i64 st, .int .i64 sp, .slice A n c] w fun e w' => e = .returned (.bool true) ∧ Below w.heap.size w w' := by
  have HZ := Lib.hid hZ
  have hs := arnd_lt su (below := 1000) (by omega)
  have hp := arnd_lt st (below := 1000) (by omega)
  have hd := arnd_lt sp (below := 100) (by omega)
  have R1 := Lib.hid (fun w => around1000 su w)
  have R2 := Lib.hid (fun w => around1000 st w)
  have R3 := Lib.hid (fun w => around100 sp w)
  generalize arnd su 1000 = s at hs R1
  generalize arnd st 1000 = p at hp R2
  generalize arnd sp 100 = d at hd R3
  have HN : Hid (∀ w1, Calls Try.prog 18 #[.int .i64 (1 + (s : Int)), .int .i64 (p : Int), .int .i64 (1 + (d : Int)), .int .i64 4] w1 fun e w' => ∃ g gl, e = .returned (.tuple #[.pointer (some ⟨g, 0, none⟩), .int .i64 0]) ∧ Aw w1 w' g gl (Auc.fresh (1 + (s : Int)) p (1 + (d : Int)) 4)) := Lib.hid fun w1 => Aw.new w1 _ _ _ 4 (by omega) (by omega) (by omega) (by omega)
  have ht0 : Hid ((Auc.fresh (1 + (s : Int)) p (1 + (d : Int)) 4).Turn (1 + (s : Int)) p (1 + (d : Int)) 0 0 [0, 0, 0, 0]) := Lib.hid ⟨rfl, rfl, rfl, rfl, rfl, rfl, rfl, fun j hj => by rcases j with _ | _ | _ | _ | j <;> first | (simp; done) | omega, fun j hj => by omega, fun h => by omega⟩
  clear hZ _h1 _h2 _h3
  go_enter Try.func4, Try.ntmps4
  go_wp2_with (first
    | (go_at_call 17; first | ((with_reducible refine (R1.out _).mono ?_); rintro e w1 ⟨rfl, rfl⟩) | ((with_reducible refine (R2.out _).mono ?_); rintro e w1 ⟨rfl, rfl⟩) | ((with_reducible refine (R3.out _).mono ?_); rintro e w1 ⟨rfl, rfl⟩))
    | (go_at_call 18; (with_reducible refine (HN.out _).mono ?_); rintro e w1 ⟨g, gl, rfl, h⟩; have K0 := Lib.hid h; clear h))
  have K1 : Hid (CW w (w1.alloc (.cells #[.int .i64 0, .int .i64 0, .int .i64 0, .int .i64 0] 37)) g gl w1.heap.size (Auc.fresh (1 + (s : Int)) p (1 + (d : Int)) 4) [0, 0, 0, 0]) := Lib.hid ⟨K0.out.below ((Below.refl _ _).alloc (Nat.le_refl _) _), Blk.new _ _ _, by have := K0.out.at_.head.lt; omega, by have := K0.out.at_.list.lt; omega, K0.out.all.size⟩
  obtain ⟨ga, hga⟩ : ∃ ga, ga = w1.heap.size := ⟨_, rfl⟩
  rw [← hga] at K1 ⊢
  generalize World.alloc w1 _ = wx at K1 ⊢
  clear hga K0 HN R1 R2 R3
  go_loopg [15] 61 (fun gk s15 wr => ∃ i a ls, gk = 61 - i ∧ i ≤ 60 ∧ s15 = .int .i64 (i : Int) ∧ Hid (CW w wr g gl ga a ls) ∧ Hid (a.Turn (1 + (s : Int)) p (1 + (d : Int)) i 0 ls))
  case atStart => exact ⟨0, _, _, rfl, by omega, rfl, K1, ht0⟩
  case round =>
    clear K1 ht0
    obtain ⟨i, a, ls, rfl, hi, rfl, K, hT⟩ := hrel
    have i0 : (0 : Int) ≤ (i : Int) := by omega
    by_cases hgo : i < n ∧ i < 60
    · obtain ⟨hin, hi60⟩ := hgo
      have i60 : (i : Int) < 60 := by omega
      have hinI : (i : Int) < (n : Int) := by omega
      obtain ⟨b, o, rfl⟩ : ∃ b o, A = some ⟨b, o, none⟩ := by
        obtain ⟨b, o, e, _⟩ := Row.at_ HZ.out (k := i * 4) (by omega)
        exact ⟨b, o, e⟩
      go_wp2
      go_loopg [16, 17] 5 (fun gk s16 s17 wr => ∃ k a ls, gk = 5 - k ∧ k ≤ 4 ∧ s17 = .int .i64 (k : Int) ∧ s16 = .int .i64 ((ls.take k).sum) ∧ Hid (CW w wr g gl ga a ls) ∧ Hid (a.Turn (1 + (s : Int)) p (1 + (d : Int)) i k ls))
      case atStart => exact ⟨0, a, ls, rfl, by omega, rfl, by simp, K, hT⟩
      case round =>
        clear K hT
        obtain ⟨k, a, ls, rfl, hk, rfl, rfl, K, hT⟩ := hrel
        have k0 : (0 : Int) ≤ (k : Int) := by omega
        by_cases hk4 : k < 4
        · have k4 : (k : Int) < 4 := by omega
          have cz : wr.cell? ⟨b, o + i * 4 + k, none⟩ = some (.int .i64 (Z (i * 4 + k))) := by
            obtain ⟨b', o', e, h1, h2⟩ := Row.at_ HZ.out (k := i * 4 + k) (by omega)
            cases e
            rw [Nat.add_assoc]
            exact (below_cell K.out.aw.all h1).trans h2
          obtain ⟨lb0, lb1⟩ := hT.out.lsb k hk4
          have hsb := Sh.sum_bound (l := ls.take k) fun g hg => by
            have hg := List.mem_of_mem_take hg
            obtain ⟨j, hj⟩ := List.getElem?_of_mem hg
            have hjl : j < 4 := by have := (List.getElem?_eq_some_iff.1 hj).1; rw [hT.out.lsl] at this; exact this
            have h1 := hT.out.lsb j hjl
            rw [List.getD_eq_getElem?_getD, hj] at h1
            simp only [Option.getD_some] at h1
            omega
          have hskl : (ls.take k).length ≤ 4 := by rw [List.length_take]; omega
          obtain ⟨sb0, sb1⟩ := hsb
          have sb2 : (ls.take k).sum ≤ 4194304 := by omega
          have hcl : Hid (∀ w1, Blk w1 ga 37 (icells ls).toArray → w1.cell? ⟨ga, k, none⟩ = some (.int .i64 (ls.getD k 0))) := Lib.hid fun w1 hB => by
            rw [hB.cell, List.getElem?_toArray]; exact icells_get _ (by rw [hT.out.lsl]; exact hk4)
          have cl := hcl.out _ K.out.blk
          generalize Z (i * 4 + k) = y at cz
          have hm := arnd_lt y (below := 1000) (by omega)
          have HK := Lib.hid (fun w => around1000 y w)
          generalize arnd y 1000 = m at hm HK
          clear sb1 hskl
          by_cases hi0 : 0 < i
          · have hi0I : (0 : Int) < (i : Int) := by omega
            obtain ⟨lk, hlk⟩ : ∃ lk, Hid (ls.getD k 0 = lk) := ⟨_, Lib.hid rfl⟩
            rw [hlk.out] at lb0 lb1 cl hcl
            by_cases hml : (m : Int) ≤ lk
            · have hml2 : ¬ lk < (m : Int) := by omega
              obtain ⟨bz, hT2⟩ := hT.out.bid hk4 (m : Int) (by omega) (fun _ => by rw [hlk.out]; exact hml)
              have HBd : Hid (∀ w1, CW w w1 g gl ga a ls → Calls Try.prog 19 #[.pointer (some ⟨g, 0, none⟩), .int .i64 (k : Int), .int .i64 (m : Int)] w1 fun e w' => e = .returned (.int .i64 0) ∧ CW w w' g gl ga (a.bid k (m : Int)).1 ls) := Lib.hid fun w1 h => by
                have := h.bid k (m : Int)
                rw [bz] at this
                exact this
              have hts := Lib.hid (take_set_sum ls (k := k) (by have := hT.out.lsl; omega) (m : Int))
              generalize (a.bid k (m : Int)).1 = a' at hT2 HBd
              replace hT2 := Lib.hid hT2
              clear bz
              go_wp2_with (first
                | (go_at_call 17; (with_reducible refine (HK.out _).mono ?_); rintro e w2 ⟨rfl, rfl⟩)
                | (go_at_call 19; (with_reducible refine (HBd.out _ K.out).mono ?_); rintro e w3 ⟨rfl, h⟩; have K2 := Lib.hid h; have cl2 := hcl.out _ h.blk; have fz2 := h.blk.frozen k; clear h))
              go_roundg (5 - (k + 1))
              case measure => omega
              case rel => exact ⟨k + 1, a', _, rfl, by omega, by go_num, by rw [hts.out], Lib.hid (K2.out.put k _), hT2⟩
            · have hml2 : lk < (m : Int) := by omega
              have hml3 : lk ≤ (m : Int) := by omega
              obtain ⟨bz, hT2⟩ := hT.out.bid hk4 lk (by omega) (fun _ => by rw [hlk.out]; exact Int.le_refl _)
              have HBd : Hid (∀ w1, CW w w1 g gl ga a ls → Calls Try.prog 19 #[.pointer (some ⟨g, 0, none⟩), .int .i64 (k : Int), .int .i64 lk] w1 fun e w' => e = .returned (.int .i64 0) ∧ CW w w' g gl ga (a.bid k lk).1 ls) := Lib.hid fun w1 h => by
                have := h.bid k lk
                rw [bz] at this
                exact this
              have hts := Lib.hid (take_set_sum ls (k := k) (by have := hT.out.lsl; omega) lk)
              generalize (a.bid k lk).1 = a' at hT2 HBd
              replace hT2 := Lib.hid hT2
              clear bz
              go_wp2_with (first
                | (go_at_call 17; (with_reducible refine (HK.out _).mono ?_); rintro e w2 ⟨rfl, rfl⟩)
                | (go_at_call 19; (with_reducible refine (HBd.out _ K.out).mono ?_); rintro e w3 ⟨rfl, h⟩; have K2 := Lib.hid h; have cl2 := hcl.out _ h.blk; have fz2 := h.blk.frozen k; clear h))
              go_roundg (5 - (k + 1))
              case measure => omega
              case rel => exact ⟨k + 1, a', _, rfl, by omega, by go_num, by rw [hts.out], Lib.hid (K2.out.put k _), hT2⟩
          · have hi0I : ¬ (0 : Int) < (i : Int) := by omega
            have hi1 : (i : Int) ≤ 0 := by omega
            obtain ⟨bz, hT2⟩ := hT.out.bid hk4 (m : Int) (by omega) (fun h => absurd h hi0)
            have HBd : Hid (∀ w1, CW w w1 g gl ga a ls → Calls Try.prog 19 #[.pointer (some ⟨g, 0, none⟩), .int .i64 (k : Int), .int .i64 (m : Int)] w1 fun e w' => e = .returned (.int .i64 0) ∧ CW w w' g gl ga (a.bid k (m : Int)).1 ls) := Lib.hid fun w1 h => by
              have := h.bid k (m : Int)
              rw [bz] at this
              exact this
            have hts := Lib.hid (take_set_sum ls (k := k) (by have := hT.out.lsl; omega) (m : Int))
            generalize (a.bid k (m : Int)).1 = a' at hT2 HBd
            replace hT2 := Lib.hid hT2
            clear bz
            go_wp2_with (first
              | (go_at_call 17; (with_reducible refine (HK.out _).mono ?_); rintro e w2 ⟨rfl, rfl⟩)
              | (go_at_call 19; (with_reducible refine (HBd.out _ K.out).mono ?_); rintro e w3 ⟨rfl, h⟩; have K2 := Lib.hid h; have cl2 := hcl.out _ h.blk; have fz2 := h.blk.frozen k; clear h))
            go_roundg (5 - (k + 1))
            case measure => omega
            case rel => exact ⟨k + 1, a', _, rfl, by omega, by go_num, by rw [hts.out], Lib.hid (K2.out.put k _), hT2⟩
        · obtain rfl : k = 4 := by omega
          rw [List.take_of_length_le (by rw [hT.out.lsl]; exact Nat.le_refl _)]
          have hpr := hT.out.price
          have hde := Lib.hid hT.out.demand
          have hro := Lib.hid hT.out.round
          have hm0 : (0 : Int) ≤ (i : Int) * (1 + (d : Int)) := Int.mul_nonneg (by omega) (by omega)
          have hm1 : (i : Int) * (1 + (d : Int)) ≤ 60 * 100 := Int.mul_le_mul (by omega) (by omega) (by omega) (by omega)
          have q1 : IntKind.i64.wrap ((i : Int) * (1 + (d : Int))) = (i : Int) * (1 + (d : Int)) := by rw [IntKind.wrap_i64]; omega
          have q2 : IntKind.i64.wrap ((p : Int) + (i : Int) * (1 + (d : Int))) = (p : Int) + (i : Int) * (1 + (d : Int)) := by rw [IntKind.wrap_i64]; omega
          have hpr2 := Lib.hid hpr
          obtain ⟨hnx1, hnx2⟩ := hT.out.next (by omega) ⟨by omega, by omega⟩ ⟨by omega, by omega⟩
          obtain ⟨T, hTT⟩ : ∃ T, Hid (ls.sum = T) := ⟨_, Lib.hid rfl⟩
          rw [hTT.out] at hnx1 hnx2 ⊢
          clear hpr hm0 hm1
          by_cases hle : T ≤ 1 + (s : Int)
          · obtain ⟨e1, e2⟩ := hnx1 hle
            have HN : Hid (∀ w1, CW w w1 g gl ga a ls → Calls Try.prog 23 #[.pointer (some ⟨g, 0, none⟩)] w1 fun e w' => e = .returned (.tuple #[.bool true, .int .i64 0]) ∧ CW w w' g gl ga a.next.1 ls) := Lib.hid fun w1 h => by
              have := h.next
              rw [e1] at this
              exact this
            have hb7 : (a.next.1.bid 0 0) = (a.next.1, 70) := by unfold Auc.bid; rw [if_pos (by rw [e2]; decide)]
            have hst := Lib.hid e2
            generalize a.next.1 = a' at HN hb7 hst
            have HB7 : Hid (∀ w1, CW w w1 g gl ga a' ls → Calls Try.prog 19 #[.pointer (some ⟨g, 0, none⟩), .int .i64 0, .int .i64 0] w1 fun e w' => e = .returned (.int .i64 70) ∧ CW w w' g gl ga a' ls) := Lib.hid fun w1 h => by
              have := h.bid 0 0
              rw [hb7] at this
              exact this
            clear hnx1 hnx2 e1 e2 hb7
            go_wp2_with (first
              | (go_at_call 20; (with_reducible refine (K.out.price _ hpr2.out).mono ?_); rintro e w2 ⟨rfl, h⟩; have K2 := Lib.hid h; clear h)
              | (go_at_call 21; (with_reducible refine (K2.out.round _ hro.out).mono ?_); rintro e w3 ⟨rfl, h⟩; have K3 := Lib.hid h; clear h)
              | (go_at_call 22; (with_reducible refine (K3.out.demand T (hde.out.trans hTT.out)).mono ?_); rintro e w4 ⟨rfl, h⟩; have K4 := Lib.hid h; clear h)
              | (go_at_call 23; (with_reducible refine (HN.out _ K4.out).mono ?_); rintro e w5 ⟨rfl, h⟩; have K5 := Lib.hid h; clear h)
              | (go_at_call 24; (with_reducible refine (K5.out.state 1 hst.out).mono ?_); rintro e w6 ⟨rfl, h⟩; have K6 := Lib.hid h; clear h)
              | (go_at_call 19; (with_reducible refine (HB7.out _ K6.out).mono ?_); rintro e w7 ⟨rfl, h⟩; have K7 := Lib.hid h; clear h)
              | (go_at_call 14; (with_reducible refine (K7.out.awake).mono ?_); rintro e w8 ⟨rfl, h⟩; have K8 := Lib.hid h; clear h))
            go_ret
            exact ⟨rfl, K8.out.aw.all⟩
          · have hle2 : 1 + (s : Int) < T := by omega
            obtain ⟨e1, e2⟩ := hnx2 hle2
            have HN : Hid (∀ w1, CW w w1 g gl ga a ls → Calls Try.prog 23 #[.pointer (some ⟨g, 0, none⟩)] w1 fun e w' => e = .returned (.tuple #[.bool false, .int .i64 0]) ∧ CW w w' g gl ga a.next.1 ls) := Lib.hid fun w1 h => by
              have := h.next
              rw [e1] at this
              exact this
            have hT2 := Lib.hid e2
            generalize a.next.1 = a' at HN hT2
            clear hnx1 hnx2 e1 e2 hle
            go_wp2_with (first
              | (go_at_call 20; (with_reducible refine (K.out.price _ hpr2.out).mono ?_); rintro e w2 ⟨rfl, h⟩; have K2 := Lib.hid h; clear h)
              | (go_at_call 21; (with_reducible refine (K2.out.round _ hro.out).mono ?_); rintro e w3 ⟨rfl, h⟩; have K3 := Lib.hid h; clear h)
              | (go_at_call 22; (with_reducible refine (K3.out.demand T (hde.out.trans hTT.out)).mono ?_); rintro e w4 ⟨rfl, h⟩; have K4 := Lib.hid h; clear h)
              | (go_at_call 23; (with_reducible refine (HN.out _ K4.out).mono ?_); rintro e w5 ⟨rfl, h⟩; have K5 := Lib.hid h; clear h))
            go_roundg (61 - (i + 1))
            case measure => omega
            case rel => exact ⟨i + 1, a', ls, rfl, by omega, by go_num, K5, hT2⟩
    · have hst := Lib.hid hT.out.state
      by_cases hin : i < n
      · have hi60 : ¬ i < 60 := fun h => hgo ⟨hin, h⟩
        obtain rfl : i = 60 := by omega
        clear hgo
        go_wp2_with (first
          | (go_at_call 24; (with_reducible refine (K.out.state 0 hst.out).mono ?_); rintro e w6 ⟨rfl, h⟩; have K6 := Lib.hid h; clear h)
          | (go_at_call 14; (with_reducible refine (K6.out.awake).mono ?_); rintro e w8 ⟨rfl, h⟩; have K8 := Lib.hid h; clear h))
        go_ret
        exact ⟨rfl, K8.out.aw.all⟩
      · clear hgo
        go_wp2_with (first
          | (go_at_call 24; (with_reducible refine (K.out.state 0 hst.out).mono ?_); rintro e w6 ⟨rfl, h⟩; have K6 := Lib.hid h; clear h)
          | (go_at_call 14; (with_reducible refine (K6.out.awake).mono ?_); rintro e w8 ⟨rfl, h⟩; have K8 := Lib.hid h; clear h))
        go_ret
        exact ⟨rfl, K8.out.aw.all⟩
end Go.Proofs.Ytccmafmeblojpaa
