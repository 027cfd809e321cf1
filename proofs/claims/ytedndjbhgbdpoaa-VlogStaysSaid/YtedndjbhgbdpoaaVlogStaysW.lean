/- The walk of VlogStays: what is prepared or committed stays so, until a higher view or a cut. -/
import Derived.Test.YtedndjbhgbdpoaaVk
namespace Go.Proofs.Ytedndjbhgbdpoaa
open Go.RowKit
def wasF (l : Vl) (j : Nat) : Bool := if j % 2 = 0 then l.prepared (l.low + ((j / 2 : Nat) : Int)) else l.committed (l.low + ((j / 2 : Nat) : Int))
theorem wasF_0 (l : Vl) (i : Nat) : wasF l (i * 2) = l.prepared (l.low + (i : Int)) := by
  unfold wasF
  rw [if_pos (by omega), show i * 2 / 2 = i from by omega]
theorem wasF_1 (l : Vl) (i : Nat) : wasF l (i * 2 + 1) = l.committed (l.low + (i : Int)) := by
  unfold wasF
  rw [if_neg (by omega), show (i * 2 + 1) / 2 = i from by omega]
theorem pairs_all (f : Nat → Bool) {j : Nat} (hj : j < 20) : (pairs f 20 10)[j]? = some (.bool (f j)) := by
  rw [pairs_at f 20 10 hj, if_pos (by omega)]
theorem pairs_none (f : Nat → Bool) : (pairs f 20 0).toArray = #[.bool false, .bool false, .bool false, .bool false, .bool false, .bool false, .bool false, .bool false, .bool false, .bool false, .bool false, .bool false, .bool false, .bool false, .bool false, .bool false, .bool false, .bool false, .bool false, .bool false] := by rfl
theorem stay_cases (p q p' q' : Bool) (s1 : p = true → p' = true) (s2 : q = true → q' = true) (s3 : q' = true → p' = true) : (p = false ∧ q = false ∧ p' = false ∧ q' = false) ∨ (p' = true ∧ q = false ∧ q' = false) ∨ (p' = true ∧ q' = true) := by
  cases p <;> cases q <;> cases p' <;> cases q' <;> simp_all
set_option maxHeartbeats 8000000 in
set_option maxRecDepth 100000 in
theorem VlogStays_walk (w : World) (A : Option Addr) (n c : Nat) (Z : Nat → VAct) (hZ : Script w A n Z) (A2 : Option Addr) (n2 c2 : Nat) (Z2 : Nat → VAct) (hZ2 : Script w A2 n2 Z2) :
    Calls Try.prog 4 #[.slice A n c, .slice A2 n2 c2] w fun e w' => e = .returned (.bool true) ∧ Below w.heap.size w w' := by
  have HA := Lib.hid (fun w => awake_calls w)
  have HBg := Lib.hid (begun_calls w A n c Z hZ)
  have HZ2 := Lib.hid hZ2
  clear hZ hZ2
  generalize (Vl.seven).acts Z (min n 80) = l at HBg
  have HP := Lib.hid (fun wx g (x : Vl) (h : Vw w wx g x) s => h.prepared s)
  have HC := Lib.hid (fun wx g (x : Vl) (h : Vw w wx g x) s => h.committed s)
  go_enter Try.func4, Try.ntmps4
  go_upto_region 2 with (first
    | (go_at_call 19; (refine (HBg.out).mono ?_); rintro e w1 ⟨g, rfl, h⟩; have H1 := Lib.hid h; clear h))
  have HLo := Lib.hid (H1.out.low)
  have hlow := H1.out.ok.low
  have HF0 := Lib.hid (wasF_0 l)
  have HF1 := Lib.hid (wasF_1 l)
  have HS := Lib.hid (fun i => Vl.ons_stays l Z2 i)
  obtain ⟨lo, hlo⟩ : ∃ lo, Hid (l.low = lo) := ⟨_, Lib.hid rfl⟩
  rw [hlo.out] at HLo hlow HF0 HF1
  obtain ⟨hlow0, hlow1⟩ := hlow
  go_upto_region 5 with (first
    | (go_at_call 20; (with_reducible refine (HLo.out).mono ?_); rintro e w2 ⟨rfl, rfl⟩))
  go_upto_region 6 with (fail)
  have hB0 : Hid (Blk (w1.alloc (.cells #[.bool false, .bool false, .bool false, .bool false, .bool false, .bool false, .bool false, .bool false, .bool false, .bool false, .bool false, .bool false, .bool false, .bool false, .bool false, .bool false, .bool false, .bool false, .bool false, .bool false] 40)) w1.heap.size 40 (pairs (wasF l) 20 0).toArray) := Lib.hid (by rw [pairs_none]; exact Blk.new _ _ _)
  have hb0 : Hid (Below w1.heap.size w1 (w1.alloc (.cells #[.bool false, .bool false, .bool false, .bool false, .bool false, .bool false, .bool false, .bool false, .bool false, .bool false, .bool false, .bool false, .bool false, .bool false, .bool false, .bool false, .bool false, .bool false, .bool false, .bool false] 40))) := Lib.hid ((Below.refl _ _).alloc (Nat.le_refl _) _)
  obtain ⟨gw, hgw⟩ : ∃ gw, w1.heap.size = gw := ⟨_, rfl⟩
  have HGW := Lib.hid hgw
  rw [hgw] at hB0 ⊢
  clear hgw
  generalize World.alloc w1 _ = w2 at hB0 hb0 ⊢
  go_wp2
  go_loopg [8] 11 (fun gk s8 wr => ∃ i : Nat, gk = 11 - i ∧ i ≤ 10 ∧ s8 = .int .i64 (i : Int) ∧ Hid (Blk wr gw 40 (pairs (wasF l) 20 i).toArray) ∧ Hid (Below w1.heap.size w1 wr))
  case atStart => exact ⟨0, rfl, Nat.zero_le _, rfl, hB0, hb0⟩
  case round =>
    clear hB0 hb0
    obtain ⟨i, rfl, hi, rfl, hB, hb⟩ := hrel
    have i0 : (0 : Int) ≤ (i : Int) := by omega
    by_cases hlt : i < 10
    · have hltI : (i : Int) < 10 := by omega
      have Hx := Lib.hid (H1.out.next hb.out)
      have HPx := Lib.hid (HP.out wr g l Hx.out (lo + (i : Int)))
      have HCx := Lib.hid (fun wx (hh : Below wr.heap.size wr wx) => HC.out wx g l (Hx.out.next hh) (lo + (i : Int)))
      have e0 := HF0.out i
      have e1 := HF1.out i
      generalize l.prepared (lo + (i : Int)) = p at HPx e0
      generalize l.committed (lo + (i : Int)) = q at HCx e1
      have E0 := Lib.hid e0
      have E1 := Lib.hid e1
      clear e0 e1
      go_wp2_with (first
        | (go_at_call 18; (with_reducible refine (HPx.out).mono ?_); rintro e w3 ⟨rfl, hh⟩; have H3 := Lib.hid hh; clear hh)
        | (go_at_call 21; (with_reducible refine (HCx.out _ H3.out).mono ?_); rintro e w4 ⟨rfl, hh⟩; have H4 := Lib.hid (below_next H3.out hh); clear hh; have B4 := Lib.hid (hB.out.below H4.out hB.out.lt); have hth : Hid (w4.there gw (i * 2) 2) := Lib.hid (fun j hj => ⟨by rw [B4.out.cell, List.getElem?_toArray, pairs_at _ _ _ (by omega)]; rfl, B4.out.frozen _⟩))
        | ((refine wpList_store_mid (op := ⟨none, _, _, _, _, _⟩) ?_ 39 (.tmp 34) (.tmp 33) ?_ gw (i * 2) #[.bool p, .bool q] ?_ ?_ hth.out (by kernel_rfl) ?_ ?_); (exact rfl); (exact rfl); (exact rfl); (exact rfl); (simp [Value.oneCell'])))
      go_roundg (11 - (i + 1))
      case measure => omega
      case rel =>
        refine ⟨i + 1, rfl, by omega, by go_num, Lib.hid ?_, Lib.hid ?_⟩
        · have := Blk.setCells [.bool p, .bool q] _ (i * 2) _ B4.out
          rw [← E0.out, ← E1.out, pairs_put (wasF l) 20 i (by omega), E0.out, E1.out] at this
          exact this
        · exact (below_next hb.out H4.out).trans ((only_setCells w4 gw (i * 2) [.bool p, .bool q]).below (below_next hb.out H4.out).size fun b hb => by rw [hb, HGW.out]; exact Nat.le_refl _)
    · obtain rfl : i = 10 := by omega
      clear hlt hi
      have HK0 : Hid (∃ ob, ob = Obj.cells (pairs (wasF l) 20 10).toArray 40 (0, 0) ∧ Vk w wr g (l.ons Z2 0) gw ob) := Lib.hid ⟨_, rfl, Vk.start H1.out hb.out (by rw [HGW.out]; exact Nat.le_refl _) hB.out⟩
      obtain ⟨ob, hob, hK0⟩ := HK0.out
      have HOB := Lib.hid hob
      have HKs := Lib.hid hK0
      clear hob hK0 HK0 hB hb
      go_wp2
      go_loopg [9] 41 (fun gk s9 wr => ∃ i : Nat, gk = 41 - i ∧ i ≤ 40 ∧ s9 = .int .i64 (i : Int) ∧ Hid (Vk w wr g (l.ons Z2 i) gw ob))
      case atStart => exact ⟨0, rfl, Nat.zero_le _, rfl, HKs⟩
      case round =>
        clear HKs
        obtain ⟨i, rfl, hi, rfl, H⟩ := hrel
        have i0 : (0 : Int) ≤ (i : Int) := by omega
        by_cases hgo : i < n2 ∧ i < 40
        · obtain ⟨hin, hi40⟩ := hgo
          have i40 : (i : Int) < 40 := by omega
          have hinI : (i : Int) < (n2 : Int) := by omega
          obtain ⟨b, o, rfl⟩ := HZ2.out.at_ hin
          obtain ⟨z0, z1, z2, z3, z4, z5⟩ := HZ2.out.cells hin H.out.all
          have hon : Hid (l.ons Z2 (i + 1) = (l.ons Z2 i).on (Z2 i)) := Lib.hid rfl
          generalize l.ons Z2 i = x at H hon
          have hun : Hid ((arnd (Z2 i).kind 6 = 0 ∨ arnd (Z2 i).kind 6 = 5 → x.on (Z2 i) = x) ∧ (¬ (arnd (Z2 i).kind 6 = 0 ∨ arnd (Z2 i).kind 6 = 5) → x.on (Z2 i) = (x.act (Z2 i)).1)) := Lib.hid ⟨fun h => if_pos h, fun h => if_neg h⟩
          have HD := Lib.hid (H.out.done (Z2 i))
          have hk6 := arnd_lt (Z2 i).kind (below := 6) (by omega)
          have HK := Lib.hid (fun w => around6 (Z2 i).kind w)
          obtain ⟨kq, hkq⟩ : ∃ kq : Int, (arnd (Z2 i).kind 6 : Int) = kq := ⟨_, rfl⟩
          rw [hkq] at HK
          unfold acells at HD
          by_cases hsk : kq = 0 ∨ kq = 5
          · have E : Hid (l.ons Z2 (i + 1) = x) := Lib.hid (by rw [hon.out]; exact hun.out.1 (by omega))
            have q0 : (kq != 0 && kq != 5) = false := by rcases hsk with rfl | rfl <;> rfl
            clear HD hun hon hk6 hkq
            generalize (Z2 i).kind = y0 at z0 HK
            rcases hsk with rfl | rfl
            · go_wp2_with (first
                | (go_at_call 12; (with_reducible refine (HK.out _).mono ?_); rintro e w2 ⟨rfl, rfl⟩))
              go_roundg (41 - (i + 1))
              case measure => omega
              case rel => exact ⟨i + 1, rfl, by omega, by go_num, by rw [E.out]; exact H⟩
            · go_wp2_with (first
                | (go_at_call 12; (with_reducible refine (HK.out _).mono ?_); rintro e w2 ⟨rfl, rfl⟩))
              go_roundg (41 - (i + 1))
              case measure => omega
              case rel => exact ⟨i + 1, rfl, by omega, by go_num, by rw [E.out]; exact H⟩
          · have E : Hid (l.ons Z2 (i + 1) = (x.act (Z2 i)).1) := Lib.hid (by rw [hon.out]; exact hun.out.2 (by omega))
            have q0 : (kq != 0) = true := by simpa using fun e => hsk (.inl e)
            have q5 : (kq != 5) = true := by simpa using fun e => hsk (.inr e)
            clear hun hon hk6 hkq hsk
            generalize (x.act (Z2 i)) = xa at HD E
            generalize (Z2 i).kind = y0 at z0 HK HD
            generalize (Z2 i).frm = y1 at z1 HD
            generalize (Z2 i).view = y2 at z2 HD
            generalize (Z2 i).seq = y3 at z3 HD
            generalize (Z2 i).d = y4 at z4 HD
            generalize (Z2 i).t = y5 at z5 HD
            go_wp2_with (first
              | (go_at_call 12; (with_reducible refine (HK.out _).mono ?_); rintro e w2 ⟨rfl, rfl⟩)
              | (go_at_call 16; (refine HD.out.mono ?_); rintro e w3 ⟨rfl, h⟩; have H3 := Lib.hid h; clear h))
            go_roundg (41 - (i + 1))
            case measure => omega
            case rel => exact ⟨i + 1, rfl, by omega, by go_num, by rw [E.out]; exact H3⟩
        · have HSx := Lib.hid (HS.out i)
          generalize l.ons Z2 i = x at H HSx
          have HSt : Hid (∀ s, (l.prepared s = true → x.prepared s = true) ∧ (l.committed s = true → x.committed s = true) ∧ (x.committed s = true → x.prepared s = true)) := Lib.hid fun s => ⟨HSx.out.prepared, HSx.out.committed, Vl.committed_prepared⟩
          clear HS HSx
          have hgo2 : (i < n2 ∧ ¬ i < 40) ∨ ¬ i < n2 := by omega
          clear hgo hi
          rcases hgo2 with ⟨hin, hi40⟩ | hin
          · have hi40I : ¬ (i : Int) < 40 := by omega
            have hinI : (i : Int) < (n2 : Int) := by omega
            go_upto_region 16 with (fail)
            go_wp2
            go_loopg [11] 11 (fun gk s11 wr => ∃ i3 : Nat, gk = 11 - i3 ∧ i3 ≤ 10 ∧ s11 = .int .i64 (i3 : Int) ∧ Hid (Vk w wr g x gw ob))
            case atStart => exact ⟨0, rfl, Nat.zero_le _, rfl, H⟩
            case round =>
              clear H
              obtain ⟨i3, rfl, hi3, rfl, H⟩ := hrel
              have j0 : (0 : Int) ≤ (i3 : Int) := by omega
              by_cases hlt : i3 < 10
              · have hltI : (i3 : Int) < 10 := by omega
                have HBk : Hid (Blk wr gw 40 (pairs (wasF l) 20 10).toArray) := Lib.hid (by have := H.out.held; rw [HOB.out] at this; exact this)
                have c0 : wr.cell? ⟨gw, i3 * 2, none⟩ = some (.bool (wasF l (i3 * 2))) := by rw [HBk.out.cell, List.getElem?_toArray, pairs_all _ (by omega)]
                have c1 : wr.cell? ⟨gw, i3 * 2 + 1, none⟩ = some (.bool (wasF l (i3 * 2 + 1))) := by rw [HBk.out.cell, List.getElem?_toArray, pairs_all _ (by omega)]
                rw [HF0.out] at c0
                rw [HF1.out] at c1
                have HPx := Lib.hid (fun wx (hh : Below wr.heap.size wr wx) => HP.out wx g x (H.out.next hh).vw (lo + (i3 : Int)))
                have HCx := Lib.hid (fun wx (hh : Below wr.heap.size wr wx) => HC.out wx g x (H.out.next hh).vw (lo + (i3 : Int)))
                have c0' : ∀ wx, Below wr.heap.size wr wx → wx.cell? ⟨gw, i3 * 2 + 1, none⟩ = some (.bool (l.committed (lo + (i3 : Int)))) := fun wx hh => (below_cell hh H.out.lt).trans c1
                have HC0 := Lib.hid c0'
                clear c0'
                obtain ⟨s1, s2, s3⟩ := HSt.out (lo + (i3 : Int))
                generalize l.prepared (lo + (i3 : Int)) = p at c0 s1
                generalize l.committed (lo + (i3 : Int)) = q at c1 s2 HC0
                generalize x.prepared (lo + (i3 : Int)) = p' at HPx s1 s3
                generalize x.committed (lo + (i3 : Int)) = q' at HCx s2 s3
                have HB : Hid (Below wr.heap.size wr wr) := Lib.hid (Below.refl _ _)
                have hcs := stay_cases p q p' q' s1 s2 s3
                clear s1 s2 s3 HBk
                rcases hcs with ⟨rfl, rfl, rfl, rfl⟩ | ⟨rfl, rfl, rfl⟩ | ⟨rfl, rfl⟩
                · go_wp2_with (first
                    | (go_at_call 18; (with_reducible refine (HPx.out _ HB.out).mono ?_); rintro e wa ⟨rfl, hh⟩; have HB := Lib.hid (below_next HB.out hh); clear hh; have c1 := HC0.out wa HB.out)
                    | (go_at_call 21; (with_reducible refine (HCx.out _ HB.out).mono ?_); rintro e wa ⟨rfl, hh⟩; have HB := Lib.hid (below_next HB.out hh); clear hh; have c1 := HC0.out wa HB.out))
                  go_roundg (11 - (i3 + 1))
                  case measure => omega
                  case rel => exact ⟨i3 + 1, rfl, by omega, by go_num, Lib.hid (H.out.next HB.out)⟩
                · cases p with
                  | false =>
                    go_wp2_with (first
                      | (go_at_call 18; (with_reducible refine (HPx.out _ HB.out).mono ?_); rintro e wa ⟨rfl, hh⟩; have HB := Lib.hid (below_next HB.out hh); clear hh; have c1 := HC0.out wa HB.out)
                      | (go_at_call 21; (with_reducible refine (HCx.out _ HB.out).mono ?_); rintro e wa ⟨rfl, hh⟩; have HB := Lib.hid (below_next HB.out hh); clear hh; have c1 := HC0.out wa HB.out))
                    go_roundg (11 - (i3 + 1))
                    case measure => omega
                    case rel => exact ⟨i3 + 1, rfl, by omega, by go_num, Lib.hid (H.out.next HB.out)⟩
                  | true =>
                    go_wp2_with (first
                      | (go_at_call 18; (with_reducible refine (HPx.out _ HB.out).mono ?_); rintro e wa ⟨rfl, hh⟩; have HB := Lib.hid (below_next HB.out hh); clear hh; have c1 := HC0.out wa HB.out)
                      | (go_at_call 21; (with_reducible refine (HCx.out _ HB.out).mono ?_); rintro e wa ⟨rfl, hh⟩; have HB := Lib.hid (below_next HB.out hh); clear hh; have c1 := HC0.out wa HB.out))
                    go_roundg (11 - (i3 + 1))
                    case measure => omega
                    case rel => exact ⟨i3 + 1, rfl, by omega, by go_num, Lib.hid (H.out.next HB.out)⟩
                · cases p with
                  | false =>
                    cases q with
                    | false =>
                      go_wp2_with (first
                        | (go_at_call 18; (with_reducible refine (HPx.out _ HB.out).mono ?_); rintro e wa ⟨rfl, hh⟩; have HB := Lib.hid (below_next HB.out hh); clear hh; have c1 := HC0.out wa HB.out)
                        | (go_at_call 21; (with_reducible refine (HCx.out _ HB.out).mono ?_); rintro e wa ⟨rfl, hh⟩; have HB := Lib.hid (below_next HB.out hh); clear hh; have c1 := HC0.out wa HB.out))
                      go_roundg (11 - (i3 + 1))
                      case measure => omega
                      case rel => exact ⟨i3 + 1, rfl, by omega, by go_num, Lib.hid (H.out.next HB.out)⟩
                    | true =>
                      go_wp2_with (first
                        | (go_at_call 18; (with_reducible refine (HPx.out _ HB.out).mono ?_); rintro e wa ⟨rfl, hh⟩; have HB := Lib.hid (below_next HB.out hh); clear hh; have c1 := HC0.out wa HB.out)
                        | (go_at_call 21; (with_reducible refine (HCx.out _ HB.out).mono ?_); rintro e wa ⟨rfl, hh⟩; have HB := Lib.hid (below_next HB.out hh); clear hh; have c1 := HC0.out wa HB.out))
                      go_roundg (11 - (i3 + 1))
                      case measure => omega
                      case rel => exact ⟨i3 + 1, rfl, by omega, by go_num, Lib.hid (H.out.next HB.out)⟩
                  | true =>
                    cases q with
                    | false =>
                      go_wp2_with (first
                        | (go_at_call 18; (with_reducible refine (HPx.out _ HB.out).mono ?_); rintro e wa ⟨rfl, hh⟩; have HB := Lib.hid (below_next HB.out hh); clear hh; have c1 := HC0.out wa HB.out)
                        | (go_at_call 21; (with_reducible refine (HCx.out _ HB.out).mono ?_); rintro e wa ⟨rfl, hh⟩; have HB := Lib.hid (below_next HB.out hh); clear hh; have c1 := HC0.out wa HB.out))
                      go_roundg (11 - (i3 + 1))
                      case measure => omega
                      case rel => exact ⟨i3 + 1, rfl, by omega, by go_num, Lib.hid (H.out.next HB.out)⟩
                    | true =>
                      go_wp2_with (first
                        | (go_at_call 18; (with_reducible refine (HPx.out _ HB.out).mono ?_); rintro e wa ⟨rfl, hh⟩; have HB := Lib.hid (below_next HB.out hh); clear hh; have c1 := HC0.out wa HB.out)
                        | (go_at_call 21; (with_reducible refine (HCx.out _ HB.out).mono ?_); rintro e wa ⟨rfl, hh⟩; have HB := Lib.hid (below_next HB.out hh); clear hh; have c1 := HC0.out wa HB.out))
                      go_roundg (11 - (i3 + 1))
                      case measure => omega
                      case rel => exact ⟨i3 + 1, rfl, by omega, by go_num, Lib.hid (H.out.next HB.out)⟩
              · obtain rfl : i3 = 10 := by omega
                go_wp2_with (first
                  | (go_at_call 14; (with_reducible refine (HA.out _).mono ?_); rintro e w6 ⟨rfl, ha⟩; have HA6 := Lib.hid ha; clear ha))
                go_ret
                exact ⟨rfl, below_next H.out.all HA6.out⟩
          · go_upto_region 16 with (fail)
            go_wp2
            go_loopg [11] 11 (fun gk s11 wr => ∃ i3 : Nat, gk = 11 - i3 ∧ i3 ≤ 10 ∧ s11 = .int .i64 (i3 : Int) ∧ Hid (Vk w wr g x gw ob))
            case atStart => exact ⟨0, rfl, Nat.zero_le _, rfl, H⟩
            case round =>
              clear H
              obtain ⟨i3, rfl, hi3, rfl, H⟩ := hrel
              have j0 : (0 : Int) ≤ (i3 : Int) := by omega
              by_cases hlt : i3 < 10
              · have hltI : (i3 : Int) < 10 := by omega
                have HBk : Hid (Blk wr gw 40 (pairs (wasF l) 20 10).toArray) := Lib.hid (by have := H.out.held; rw [HOB.out] at this; exact this)
                have c0 : wr.cell? ⟨gw, i3 * 2, none⟩ = some (.bool (wasF l (i3 * 2))) := by rw [HBk.out.cell, List.getElem?_toArray, pairs_all _ (by omega)]
                have c1 : wr.cell? ⟨gw, i3 * 2 + 1, none⟩ = some (.bool (wasF l (i3 * 2 + 1))) := by rw [HBk.out.cell, List.getElem?_toArray, pairs_all _ (by omega)]
                rw [HF0.out] at c0
                rw [HF1.out] at c1
                have HPx := Lib.hid (fun wx (hh : Below wr.heap.size wr wx) => HP.out wx g x (H.out.next hh).vw (lo + (i3 : Int)))
                have HCx := Lib.hid (fun wx (hh : Below wr.heap.size wr wx) => HC.out wx g x (H.out.next hh).vw (lo + (i3 : Int)))
                have c0' : ∀ wx, Below wr.heap.size wr wx → wx.cell? ⟨gw, i3 * 2 + 1, none⟩ = some (.bool (l.committed (lo + (i3 : Int)))) := fun wx hh => (below_cell hh H.out.lt).trans c1
                have HC0 := Lib.hid c0'
                clear c0'
                obtain ⟨s1, s2, s3⟩ := HSt.out (lo + (i3 : Int))
                generalize l.prepared (lo + (i3 : Int)) = p at c0 s1
                generalize l.committed (lo + (i3 : Int)) = q at c1 s2 HC0
                generalize x.prepared (lo + (i3 : Int)) = p' at HPx s1 s3
                generalize x.committed (lo + (i3 : Int)) = q' at HCx s2 s3
                have HB : Hid (Below wr.heap.size wr wr) := Lib.hid (Below.refl _ _)
                have hcs := stay_cases p q p' q' s1 s2 s3
                clear s1 s2 s3 HBk
                rcases hcs with ⟨rfl, rfl, rfl, rfl⟩ | ⟨rfl, rfl, rfl⟩ | ⟨rfl, rfl⟩
                · go_wp2_with (first
                    | (go_at_call 18; (with_reducible refine (HPx.out _ HB.out).mono ?_); rintro e wa ⟨rfl, hh⟩; have HB := Lib.hid (below_next HB.out hh); clear hh; have c1 := HC0.out wa HB.out)
                    | (go_at_call 21; (with_reducible refine (HCx.out _ HB.out).mono ?_); rintro e wa ⟨rfl, hh⟩; have HB := Lib.hid (below_next HB.out hh); clear hh; have c1 := HC0.out wa HB.out))
                  go_roundg (11 - (i3 + 1))
                  case measure => omega
                  case rel => exact ⟨i3 + 1, rfl, by omega, by go_num, Lib.hid (H.out.next HB.out)⟩
                · cases p with
                  | false =>
                    go_wp2_with (first
                      | (go_at_call 18; (with_reducible refine (HPx.out _ HB.out).mono ?_); rintro e wa ⟨rfl, hh⟩; have HB := Lib.hid (below_next HB.out hh); clear hh; have c1 := HC0.out wa HB.out)
                      | (go_at_call 21; (with_reducible refine (HCx.out _ HB.out).mono ?_); rintro e wa ⟨rfl, hh⟩; have HB := Lib.hid (below_next HB.out hh); clear hh; have c1 := HC0.out wa HB.out))
                    go_roundg (11 - (i3 + 1))
                    case measure => omega
                    case rel => exact ⟨i3 + 1, rfl, by omega, by go_num, Lib.hid (H.out.next HB.out)⟩
                  | true =>
                    go_wp2_with (first
                      | (go_at_call 18; (with_reducible refine (HPx.out _ HB.out).mono ?_); rintro e wa ⟨rfl, hh⟩; have HB := Lib.hid (below_next HB.out hh); clear hh; have c1 := HC0.out wa HB.out)
                      | (go_at_call 21; (with_reducible refine (HCx.out _ HB.out).mono ?_); rintro e wa ⟨rfl, hh⟩; have HB := Lib.hid (below_next HB.out hh); clear hh; have c1 := HC0.out wa HB.out))
                    go_roundg (11 - (i3 + 1))
                    case measure => omega
                    case rel => exact ⟨i3 + 1, rfl, by omega, by go_num, Lib.hid (H.out.next HB.out)⟩
                · cases p with
                  | false =>
                    cases q with
                    | false =>
                      go_wp2_with (first
                        | (go_at_call 18; (with_reducible refine (HPx.out _ HB.out).mono ?_); rintro e wa ⟨rfl, hh⟩; have HB := Lib.hid (below_next HB.out hh); clear hh; have c1 := HC0.out wa HB.out)
                        | (go_at_call 21; (with_reducible refine (HCx.out _ HB.out).mono ?_); rintro e wa ⟨rfl, hh⟩; have HB := Lib.hid (below_next HB.out hh); clear hh; have c1 := HC0.out wa HB.out))
                      go_roundg (11 - (i3 + 1))
                      case measure => omega
                      case rel => exact ⟨i3 + 1, rfl, by omega, by go_num, Lib.hid (H.out.next HB.out)⟩
                    | true =>
                      go_wp2_with (first
                        | (go_at_call 18; (with_reducible refine (HPx.out _ HB.out).mono ?_); rintro e wa ⟨rfl, hh⟩; have HB := Lib.hid (below_next HB.out hh); clear hh; have c1 := HC0.out wa HB.out)
                        | (go_at_call 21; (with_reducible refine (HCx.out _ HB.out).mono ?_); rintro e wa ⟨rfl, hh⟩; have HB := Lib.hid (below_next HB.out hh); clear hh; have c1 := HC0.out wa HB.out))
                      go_roundg (11 - (i3 + 1))
                      case measure => omega
                      case rel => exact ⟨i3 + 1, rfl, by omega, by go_num, Lib.hid (H.out.next HB.out)⟩
                  | true =>
                    cases q with
                    | false =>
                      go_wp2_with (first
                        | (go_at_call 18; (with_reducible refine (HPx.out _ HB.out).mono ?_); rintro e wa ⟨rfl, hh⟩; have HB := Lib.hid (below_next HB.out hh); clear hh; have c1 := HC0.out wa HB.out)
                        | (go_at_call 21; (with_reducible refine (HCx.out _ HB.out).mono ?_); rintro e wa ⟨rfl, hh⟩; have HB := Lib.hid (below_next HB.out hh); clear hh; have c1 := HC0.out wa HB.out))
                      go_roundg (11 - (i3 + 1))
                      case measure => omega
                      case rel => exact ⟨i3 + 1, rfl, by omega, by go_num, Lib.hid (H.out.next HB.out)⟩
                    | true =>
                      go_wp2_with (first
                        | (go_at_call 18; (with_reducible refine (HPx.out _ HB.out).mono ?_); rintro e wa ⟨rfl, hh⟩; have HB := Lib.hid (below_next HB.out hh); clear hh; have c1 := HC0.out wa HB.out)
                        | (go_at_call 21; (with_reducible refine (HCx.out _ HB.out).mono ?_); rintro e wa ⟨rfl, hh⟩; have HB := Lib.hid (below_next HB.out hh); clear hh; have c1 := HC0.out wa HB.out))
                      go_roundg (11 - (i3 + 1))
                      case measure => omega
                      case rel => exact ⟨i3 + 1, rfl, by omega, by go_num, Lib.hid (H.out.next HB.out)⟩
              · obtain rfl : i3 = 10 := by omega
                go_wp2_with (first
                  | (go_at_call 14; (with_reducible refine (HA.out _).mono ?_); rintro e w6 ⟨rfl, ha⟩; have HA6 := Lib.hid ha; clear ha))
                go_ret
                exact ⟨rfl, below_next H.out.all HA6.out⟩
end Go.Proofs.Ytedndjbhgbdpoaa
