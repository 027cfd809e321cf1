/- The walk of ClockApart: two auctions know nothing of each other. -/
import Derived.Test.YtccmafmeblojpaaApart
import Derived.Test.YtccmafmeblojpaaNums
import Derived.Deep.CutRange
namespace Go.Proofs.Ytccmafmeblojpaa
open Go.RowKit
theorem min_next {i n : Nat} (h : i < n) : min (i + 1) n = min i n + 1 := by omega
theorem min_stays {i n : Nat} (h : ¬ i < n) : min (i + 1) n = min i n := by omega
theorem acts_step {a : Auc} {Z : Nat → Int} {i n : Nat} (h : i < n) : a.acts Z (min (i + 1) n) = (a.acts Z (min i n)).act (Z (i * 3)) (Z (i * 3 + 1)) (Z (i * 3 + 2)) := by
  rw [min_next h, Nat.min_eq_left (Nat.le_of_lt h)]; rfl
theorem Script.less {w : World} {A : Option Addr} {n k : Nat} {Z : Nat → Int} (h : Script w A n Z) (hk : k ≤ n) : Script w A k Z := by
  rcases h with h | ⟨g, o, e, hl, hc⟩
  · exact .inl (by omega)
  · exact .inr ⟨g, o, e, hl, fun j hj => hc j (by omega)⟩
structure Four (w0 w : World) (L : List (Nat × Nat × Auc)) (A B : Option Addr) (ls : List Int) : Prop where
  aws : Aws w0 w L
  ra : IRow w A ls
  rb : IRow w B ls
section
variable {w0 w w' : World} {L : List (Nat × Nat × Auc)} {A B : Option Addr} {ls : List Int}
theorem Four.keep (H : Four w0 w L A B ls) (hb : Below w.heap.size w w') : Four w0 w' L A B ls := ⟨H.aws.keep hb, Row.below H.ra hb, Row.below H.rb hb⟩
theorem Four.bytes (H : Four w0 w L A B ls) (g gl : Nat) (a : Auc) (hm : (g, gl, a) ∈ L) (x : ByteArray) (hx : a.bytes = x) : Calls Try.prog 28 #[.pointer (some ⟨g, 0, none⟩)] w fun e w' => e = .returned (.string x) ∧ Four w0 w' L A B ls :=
  (H.aws.bytes g gl a hm).mono fun _ _ ⟨h1, h2⟩ => ⟨by rw [h1, hx], H.keep h2⟩
theorem Four.numbers (H : Four w0 w L A B ls) (n : Nat) (hn : ls.length = n) (h16 : n ≤ 16) : Calls Try.prog 15 #[.slice A n n, .slice B n n] w fun e w' => e = .returned (.bool true) ∧ Four w0 w' L A B ls :=
  (numbers_same w A B n n n ls hn (by omega) H.ra H.rb).mono fun _ _ ⟨h1, k, h2⟩ => ⟨h1, by rw [h2]; exact H.keep (below_self _ k)⟩
theorem Four.awake (H : Four w0 w L A B ls) : Calls Try.prog 14 #[] w fun e w' => e = .returned (.bool true) ∧ Four w0 w' L A B ls :=
  (awake_calls w).mono fun _ _ ⟨h1, h2⟩ => ⟨h1, H.keep h2⟩
end
set_option maxHeartbeats 8000000 in
set_option maxRecDepth 100000 in
theorem ClockApart_walk (w : World) (s : Int) (_hs : (Lit.int .i64 s).wf = true) (A : Option Addr) (n c : Nat) (Z : Nat → Int) (hZ : Script w A n Z) (B : Option Addr) (m d : Nat) (Y : Nat → Int) (hY : Script w B m Y) (hnc : n ≤ c) (hmd : m ≤ d) :
    Calls Try.prog 7 #[.int .i64 s, .slice A n c, .slice B m d] w fun e w' => e = .returned (.bool true) ∧ Below w.heap.size w w' := by
  have HZ := Lib.hid hZ
  have HY := Lib.hid hY
  have HNC := Lib.hid hnc
  have HMD := Lib.hid hmd
  have HB1 := Lib.hid (fun w => begin1 w s)
  clear hZ hY _hs hnc hmd
  go_enter Try.func7, Try.ntmps7
  go_wp2_with (first
    | (go_at_call 25; (with_reducible refine (begin2 H0.out s).mono ?_); rintro e w2 hB; obtain ⟨h, hl, rfl, h2⟩ := hB; have H1 := Lib.hid h2; clear h2)
    | (go_at_call 25; (with_reducible refine (HB1.out _).mono ?_); rintro e w1 hB; obtain ⟨g, gl, rfl, h1⟩ := hB; have H0 := Lib.hid h1; clear h1))
  have E0 : Hid ((Auc.four s).acts Z (min 0 n) = Auc.four s ∧ (Auc.four s).acts Y (min 0 m) = Auc.four s) := Lib.hid (by simp [Auc.acts])
  go_loopg [9] 61 (fun gk s9 wr => ∃ i, gk = 61 - i ∧ i ≤ 60 ∧ s9 = .int .i64 (i : Int) ∧ Hid (DW w wr g gl ((Auc.four s).acts Z (min i n)) h hl ((Auc.four s).acts Y (min i m))))
  case atStart => exact ⟨0, rfl, by omega, rfl, by rw [E0.out.1, E0.out.2]; exact H1⟩
  case round =>
    clear H0 H1 E0
    obtain ⟨i, rfl, hi, rfl, H⟩ := hrel
    have i0 : (0 : Int) ≤ (i : Int) := by omega
    by_cases hgo : i < 60
    · have hgoI : (i : Int) < 60 := by omega
      go_upto_if 39 with (fail)
      go_cut [10, 11, 12, 13] from 32 to 100 (fun s10 s11 s12 s13 wc => Hid (DW w wc g gl ((Auc.four s).acts Z (min (i + 1) n)) h hl ((Auc.four s).acts Y (min i m))))
      case first =>
        obtain ⟨b, hb⟩ : ∃ b, Hid ((Auc.four s).acts Y (min i m) = b) := ⟨_, Lib.hid rfl⟩
        rw [hb.out] at H
        by_cases hin : i < n
        · have hinI : (i : Int) < (n : Int) := by omega
          obtain ⟨pa, po, rfl⟩ := HZ.out.at_ hin
          have hact : Hid ((Auc.four s).acts Z (min (i + 1) n) = ((Auc.four s).acts Z (min i n)).act (Z (i * 3)) (Z (i * 3 + 1)) (Z (i * 3 + 2))) := Lib.hid (acts_step hin)
          generalize (Auc.four s).acts Z (min i n) = a at H hact
          obtain ⟨z0, z1, z2⟩ := HZ.out.cells hin H.out.x.all
          generalize Z (i * 3) = y0 at z0 hact
          generalize Z (i * 3 + 1) = y1 at z1 hact
          generalize Z (i * 3 + 2) = y2 at z2 hact
          have hk3 := arnd_lt y0 (below := 3) (by omega)
          have HK := Lib.hid (fun w => around3 y0 w)
          obtain ⟨k, hk⟩ : ∃ k, Hid (arnd y0 3 = k) := ⟨_, Lib.hid rfl⟩
          rw [hk.out] at HK hk3
          obtain ⟨a', ha'⟩ : ∃ a', Hid (a.act y0 y1 y2 = a') := ⟨_, Lib.hid rfl⟩
          rw [ha'.out] at hact
          go_upto_if 46 with (first
            | (go_at_call 17; (with_reducible refine (HK.out _).mono ?_); rintro e w1 ⟨rfl, rfl⟩))
          go_cut [10] from 32 to 100 (fun s10 wc => Hid (DW w wc g gl a' h hl b))
          case first =>
            by_cases h2 : k = 2
            · have hb2 : ((k : Int) == 2) = true := by subst h2; rfl
              have E : Hid (a' = a.next.1) := Lib.hid (by rw [← ha'.out]; unfold Auc.act; rw [if_pos (by rw [hk.out]; exact h2)])
              clear h2
              go_wp2_with (first
                | (go_at_call 23; (with_reducible refine (H.out.nextx).mono ?_); rintro e w1 ⟨rfl, h⟩; have H1 := Lib.hid h; clear h))
              go_meet
              rw [E.out]; exact H1
            · have hb2 : ((k : Int) == 2) = false := by simp; omega
              have E : Hid (a' = (a.bid y1 y2).1) := Lib.hid (by rw [← ha'.out]; unfold Auc.act; rw [if_neg (by rw [hk.out]; exact h2)])
              clear h2
              go_upto_region 10 with (fail)
              go_still_tail 11, (by kernel_rfl)
              change wpList _ _ _ _ _ wr.drew
              have Hd := Lib.hid (H.out.keep (below_self wr 1))
              have HB := Lib.hid (DW.bidx (w := wr.drew) Hd.out y1 y2)
              go_wp2_with (first
                | (go_at_call 19; (refine HB.out.mono ?_); rintro e w1 ⟨rfl, h⟩; have H1 := Lib.hid h; clear h))
              go_meet
              rw [E.out]; exact H1
          case rest =>
            clear H z0 z1 z2
            have H := hcut
            clear hcut
            go_wp2_with (first
              | (go_at_call 27; (with_reducible refine (H.out.salex).mono ?_); rintro e w1 ⟨G, q, hq, rfl, h⟩; have H1 := Lib.hid h; clear h))
            go_loopg [13] (q + 1) (fun gk s13 wr => ∃ j, gk = q + 1 - j ∧ j ≤ q ∧ s13 = .int .i64 (j : Int) ∧ Hid (DS w wr g gl a' h hl b G q))
            case atStart => exact ⟨0, rfl, Nat.zero_le _, rfl, H1⟩
            case round =>
              clear H1 H
              obtain ⟨j, rfl, hj, rfl, H⟩ := hrel
              have j0 : (0 : Int) ≤ (j : Int) := by omega
              by_cases hlt : j < q
              · have hltI : (j : Int) < (q : Int) := by omega
                obtain ⟨gs, rfl, ⟨x, hx⟩, hf, hput⟩ := H.out.put hlt
                have HP := Lib.hid hput
                clear hput
                go_wp2
                go_roundg (q + 1 - (j + 1))
                case measure => omega
                case rel => exact ⟨j + 1, rfl, by omega, by go_num, Lib.hid (HP.out 77)⟩
              · obtain rfl : j = q := by omega
                go_wp2
                go_meet
                rw [hact.out, hb.out]
                exact Lib.hid H.out.d
        · have hinI : ¬ (i : Int) < (n : Int) := by omega
          have E : Hid (min (i + 1) n = min i n) := Lib.hid (min_stays hin)
          go_wp2
          go_meet
          rw [E.out, hb.out]; exact H
      case rest =>
        clear H
        have H := hcut
        clear hcut
        obtain ⟨a, ha⟩ : ∃ a, Hid ((Auc.four s).acts Z (min (i + 1) n) = a) := ⟨_, Lib.hid rfl⟩
        rw [ha.out] at H
        by_cases him : i < m
        · have himI : (i : Int) < (m : Int) := by omega
          obtain ⟨pa, po, rfl⟩ := HY.out.at_ him
          have hact : Hid ((Auc.four s).acts Y (min (i + 1) m) = ((Auc.four s).acts Y (min i m)).act (Y (i * 3)) (Y (i * 3 + 1)) (Y (i * 3 + 2))) := Lib.hid (acts_step him)
          generalize (Auc.four s).acts Y (min i m) = b at H hact
          obtain ⟨z0, z1, z2⟩ := HY.out.cells him H.out.x.all
          generalize Y (i * 3) = y0 at z0 hact
          generalize Y (i * 3 + 1) = y1 at z1 hact
          generalize Y (i * 3 + 2) = y2 at z2 hact
          have hk3 := arnd_lt y0 (below := 3) (by omega)
          have HK := Lib.hid (fun w => around3 y0 w)
          obtain ⟨k, hk⟩ : ∃ k, Hid (arnd y0 3 = k) := ⟨_, Lib.hid rfl⟩
          rw [hk.out] at HK hk3
          by_cases h2 : k = 2
          · have hb2 : ((k : Int) == 2) = true := by subst h2; rfl
            have E : Hid ((Auc.four s).acts Y (min (i + 1) m) = b.next.1) := Lib.hid (by rw [hact.out]; unfold Auc.act; rw [if_pos (by rw [hk.out]; exact h2)])
            clear h2
            go_wp2_with (first
              | (go_at_call 17; (with_reducible refine (HK.out _).mono ?_); rintro e w1 ⟨rfl, rfl⟩)
              | (go_at_call 23; (with_reducible refine (H.out.nexty).mono ?_); rintro e w1 ⟨rfl, h⟩; have H1 := Lib.hid h; clear h))
            go_roundg (61 - (i + 1))
            case measure => omega
            case rel => exact ⟨i + 1, rfl, by omega, by go_num, by rw [ha.out, E.out]; exact H1⟩
          · have hb2 : ((k : Int) == 2) = false := by simp; omega
            have E : Hid ((Auc.four s).acts Y (min (i + 1) m) = (b.bid y1 y2).1) := Lib.hid (by rw [hact.out]; unfold Auc.act; rw [if_neg (by rw [hk.out]; exact h2)])
            clear h2
            go_upto_region 19 with (first
              | (go_at_call 17; (with_reducible refine (HK.out _).mono ?_); rintro e w1 ⟨rfl, rfl⟩))
            go_still_tail 11, (by kernel_rfl)
            change wpList _ _ _ _ _ (World.drew _)
            have Hd := Lib.hid (H.out.keep (below_self _ 1))
            have HB := Lib.hid (DW.bidy (w := World.drew _) Hd.out y1 y2)
            go_wp2_with (first
              | (go_at_call 19; (refine HB.out.mono ?_); rintro e w1 ⟨rfl, h⟩; have H1 := Lib.hid h; clear h))
            go_roundg (61 - (i + 1))
            case measure => omega
            case rel => exact ⟨i + 1, rfl, by omega, by go_num, by rw [ha.out, E.out]; exact H1⟩
        · have himI : ¬ (i : Int) < (m : Int) := by omega
          have E : Hid (min (i + 1) m = min i m) := Lib.hid (min_stays him)
          go_wp2
          go_roundg (61 - (i + 1))
          case measure => omega
          case rel => exact ⟨i + 1, rfl, by omega, by go_num, by rw [ha.out, E.out]; exact H⟩
    · obtain rfl : i = 60 := by omega
      have hn0 := Nat.min_le_left 60 n
      have hm0 := Nat.min_le_left 60 m
      go_upto_if 103 with (fail)
      go_cut [1] from 101 (fun s1 wc => wc = wr ∧ ∃ c', s1 = .slice A (min 60 n) c')
      case first =>
        by_cases hn : n > 60
        · have hnI : (60 : Int) < (n : Int) := by omega
          obtain ⟨pa, po, rfl⟩ := HZ.out.at_ (i := 0) (by omega)
          have hc := HNC.out
          have hcI : (60 : Int) ≤ (c : Int) := by omega
          have HE : Hid (min 60 n = 60) := Lib.hid (by omega)
          clear hc
          go_wp2
          go_meet
          rw [HE.out]
          exact ⟨rfl, _, rfl⟩
        · have hnI : ¬ (60 : Int) < (n : Int) := by omega
          have HE : Hid (min 60 n = n) := Lib.hid (by omega)
          go_wp2
          go_meet
          rw [HE.out]
          exact ⟨rfl, _, rfl⟩
      case rest =>
        obtain ⟨rfl, c1, rfl⟩ := hcut
        go_upto_if 108 with (fail)
        go_cut [2] from 106 (fun s1 wx => wx = wc ∧ ∃ c', s1 = .slice B (min 60 m) c')
        case first =>
          by_cases hn : m > 60
          · have hnI : (60 : Int) < (m : Int) := by omega
            obtain ⟨pa, po, rfl⟩ := HY.out.at_ (i := 0) (by omega)
            have hc := HMD.out
            have hcI : (60 : Int) ≤ (d : Int) := by omega
            have HE : Hid (min 60 m = 60) := Lib.hid (by omega)
            clear hc
            go_wp2
            go_meet
            rw [HE.out]
            exact ⟨rfl, _, rfl⟩
          · have hnI : ¬ (60 : Int) < (m : Int) := by omega
            have HE : Hid (min 60 m = m) := Lib.hid (by omega)
            go_wp2
            go_meet
            rw [HE.out]
            exact ⟨rfl, _, rfl⟩
        case rest =>
          obtain ⟨hwx, c2, rfl⟩ := hcut
          rw [← hwx] at H
          have HZ2 := Lib.hid (HZ.out.less (Nat.min_le_right 60 n))
          have HY2 := Lib.hid (HY.out.less (Nat.min_le_right 60 m))
          obtain ⟨p, hp⟩ : ∃ p, min 60 n = p := ⟨_, rfl⟩
          obtain ⟨q, hq⟩ : ∃ q, min 60 m = q := ⟨_, rfl⟩
          rw [hp] at HZ2 H hn0 ⊢
          rw [hq] at HY2 H hm0 ⊢
          clear hp hq hwx HZ HY HNC HMD HB1
          have HA0 := Lib.hid H.out.aws
          have hlen := Nat.le_trans (Auc.sale_short _) H.out.x.at_.ok.len.2
          have HBg1 := Lib.hid (fun (w1 : World) (L : List (Nat × Nat × Auc)) (h : Aws w w1 L) => h.begun s A p c1 Z HZ2.out (by omega))
          have HBg2 := Lib.hid (fun (w1 : World) (L : List (Nat × Nat × Auc)) (h : Aws w w1 L) => h.begun s B q c2 Y HY2.out (by omega))
          generalize (Auc.four s).acts Z p = a at HA0 hlen HBg1
          generalize (Auc.four s).acts Y q = b at HA0 HBg2
          obtain ⟨ls, hls⟩ : ∃ ls, Hid (a.sale.2.1 = ls) := ⟨_, Lib.hid rfl⟩
          rw [hls.out] at hlen
          obtain ⟨r, hr⟩ : ∃ r, Hid (ls.length = r) := ⟨_, Lib.hid rfl⟩
          rw [hr.out] at hlen
          obtain ⟨xa, hxa⟩ : ∃ xa, Hid (a.bytes = xa) := ⟨_, Lib.hid rfl⟩
          obtain ⟨xb, hxb⟩ : ∃ xb, Hid (b.bytes = xb) := ⟨_, Lib.hid rfl⟩
          clear H HZ2 HY2
          go_wp2_with (first
            | (go_at_call 25; first
              | ((with_reducible refine (HBg2.out _ _ HA1.out).mono ?_); rintro e w4 ⟨k2, kl2, rfl, h⟩; have HA2 := Lib.hid h; clear h)
              | ((with_reducible refine (HBg1.out _ _ HA0.out).mono ?_); rintro e w3 ⟨k1, kl1, rfl, h⟩; have HA1 := Lib.hid h; clear h))
            | (go_at_call 27; first
              | ((with_reducible refine (HA2.out.sale g gl a (by simp) ls hls.out r hr.out).mono ?_); rintro e w5 ⟨GA, rfl, hI, hb⟩; have HI := Lib.hid hI; have HA3 := Lib.hid (HA2.out.keep hb); clear hI hb)
              | ((with_reducible refine (HA3.out.sale k1 kl1 a (by simp) ls hls.out r hr.out).mono ?_); rintro e w6 ⟨GB, rfl, hI, hb⟩; have HF0 : Hid (Four w w6 _ GA GB ls) := Lib.hid ⟨HA3.out.keep hb, Row.below HI.out hb, hI⟩; clear hI hb))
            | (go_at_call 28; first
              | ((with_reducible refine (HF0.out.bytes g gl a (by simp) xa hxa.out).mono ?_); rintro e w7 ⟨rfl, h⟩; have HF1 := Lib.hid h; clear h)
              | ((with_reducible refine (HF1.out.bytes k1 kl1 a (by simp) xa hxa.out).mono ?_); rintro e w8 ⟨rfl, h⟩; have HF2 := Lib.hid h; clear h)
              | ((with_reducible refine (HF2.out.bytes h hl b (by simp) xb hxb.out).mono ?_); rintro e w9 ⟨rfl, h⟩; have HF3 := Lib.hid h; clear h)
              | ((with_reducible refine (HF3.out.bytes k2 kl2 b (by simp) xb hxb.out).mono ?_); rintro e w10 ⟨rfl, h⟩; have HF4 := Lib.hid h; clear h))
            | (go_at_call 15; (with_reducible refine (HF4.out.numbers r hr.out hlen).mono ?_); rintro e w11 ⟨rfl, h⟩; have HF5 := Lib.hid h; clear h)
            | (go_at_call 14; (with_reducible refine (HF5.out.awake).mono ?_); rintro e w12 ⟨rfl, h⟩; have HF6 := Lib.hid h; clear h))
          go_ret
          exact ⟨rfl, HF6.out.aws.all⟩
end Go.Proofs.Ytccmafmeblojpaa
