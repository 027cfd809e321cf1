/- The walk of VlogKeeps: each proof that is kept is one. -/
import Derived.Test.YtedndjbhgbdpoaaVlB
namespace Go.Proofs.Ytedndjbhgbdpoaa
open Go.RowKit
theorem Vw.kept2 {w0 w : World} {g : Nat} {l : Vl} (h : Vw w0 w g l) : Calls Try.prog 22 #[.pointer (some ⟨g, 0, none⟩)] w fun e w' => ∃ A c, e = .returned (.slice A l.kept.length c) ∧ KeptAt2 w w' (.slice A l.kept.length c) l.kept ∧ Below w.heap.size w w' := by
  obtain ⟨gm, gv, kv, h1, _⟩ := h
  exact kept2_calls h1
theorem KeptAt2.opened2 {w0 w : World} {A : Option Addr} {n c : Nat} {L : List Kb} (h : KeptAt2 w0 w (.slice A n c) L) : ∃ b o bl ol cl, 0 < L.length → A = some ⟨b, o, none⟩ ∧ Told w0 w L b o bl ol cl := by
  by_cases h0 : 0 < L.length
  · obtain ⟨b, o, bl, ol, cl, h1, h2⟩ := h.opened h0
    exact ⟨b, o, bl, ol, cl, fun _ => ⟨h1, h2⟩⟩
  · exact ⟨0, 0, fun _ => 0, fun _ => 0, fun _ => 0, fun h => absurd h h0⟩
/-- Of the lists that were told the first i are spoilt. -/
def Spoil (w1 w2 wr : World) (m b : Nat) (bl ol : Nat → Nat) (i : Nat) : Prop :=
  Below w1.heap.size w1 wr ∧ w2.heap.size ≤ wr.heap.size ∧ (0 < m → wr.heap[b]? = w2.heap[b]?) ∧ (∀ j, i ≤ j → j < m → wr.heap[bl j]? = w2.heap[bl j]?) ∧ ∀ j, j < i → wr.cell? ⟨bl j, ol j + 1, none⟩ = some (.string tS)
theorem Spoil.start {w1 w2 : World} (hb : Below w1.heap.size w1 w2) (m b : Nat) (bl ol : Nat → Nat) : Spoil w1 w2 w2 m b bl ol 0 := ⟨hb, Nat.le_refl _, fun _ => rfl, fun _ _ _ => rfl, fun _ h => absurd h (Nat.not_lt_zero _)⟩
theorem Spoil.step {w1 w2 wr wz : World} {L : List Kb} {m b o : Nat} {bl ol cl : Nat → Nat} {i : Nat} (h : Spoil w1 w2 wr m b bl ol i) (hT : Told w1 w2 L b o bl ol cl) (hm : L.length = m) (hi : i < m) (hb : Below wr.heap.size wr wz) (hc : (wz.cell? ⟨bl i, ol i + 1, none⟩).isSome = true) :
    Spoil w1 w2 (wz.setCell ⟨bl i, ol i + 1, none⟩ (.string tS)) m b bl ol (i + 1) := by
  obtain ⟨h1, h2, h3, h4, h5⟩ := h
  obtain ⟨t1, t2, t3, t4⟩ := hT
  obtain ⟨a1, a2, a3, _, _⟩ := t3 i (by omega)
  have hsz := hb.size
  have other : ∀ x, x ≠ bl i → (wz.setCell ⟨bl i, ol i + 1, none⟩ (.string tS)).heap[x]? = wz.heap[x]? := fun x hx => heap_setCell_other wz ⟨bl i, ol i + 1, none⟩ x _ hx
  refine ⟨(h1.trans (hb.mono h1.size)).setCell a1 _, by simpa using Nat.le_trans h2 hsz, fun h0 => ?_, fun j hj hjm => ?_, fun j hj => ?_⟩
  · rw [other b (Ne.symm a3), hb.block b (by omega), h3 h0]
  · have hj2 := t3 j (by omega)
    rw [other (bl j) (Ne.symm (t4 i j (by omega) (by omega))), hb.block (bl j) (by omega), h4 j (by omega) hjm]
  · by_cases e : j = i
    · subst e
      exact World.cell?_setCell_same' _ _ _ hc
    · have hj2 := t3 j (by omega)
      have hne : bl j ≠ bl i := t4 j i (by omega) (by omega)
      have e1 : (wz.setCell ⟨bl i, ol i + 1, none⟩ (.string tS)).heap[bl j]? = wr.heap[bl j]? := (other (bl j) hne).trans (hb.block (bl j) (by omega))
      rw [World.cell?_of_block (a := ⟨bl j, ol j + 1, none⟩) e1]
      exact h5 j (by omega)
theorem getD_mem {L : List Sg} {i : Nat} (hi : i < L.length) : L.getD i Sg.none ∈ L := by
  rw [List.getD_eq_getElem?_getD, List.getElem?_eq_getElem hi]
  exact List.getElem_mem hi
set_option maxHeartbeats 8000000 in
set_option maxRecDepth 100000 in
theorem VlogKeeps_walk (w : World) (A : Option Addr) (n c : Nat) (Z : Nat → VAct) (hZ : Script w A n Z) (hn : n ≤ maxLen) :
    Calls Try.prog 5 #[.slice A n c] w fun e w' => e = .returned (.bool true) ∧ Below w.heap.size w w' := by
  have HA := Lib.hid (fun w => awake_calls w)
  have HBg := Lib.hid (begun_calls w A n c Z hZ)
  have HI := Lib.hid (Vl.seven_inv Z (min n 80))
  have HBI : Hid (((Vl.seven).acts Z (min n 80)).BInv fun t => ∃ i, i < n ∧ (Z i).t = t) := Lib.hid ((Vl.seven_binv Z (min n 80)).mono fun t ⟨i, h1, h2⟩ => ⟨i, by omega, h2⟩)
  have HSp : Hid (∀ wx, Below w.heap.size w wx → (∃ i, i < n ∧ (Z i).t = tS) → Calls Try.prog 24 #[.slice A n c] wx fun e w' => e = .returned (.bool true) ∧ wx = w') := Lib.hid fun wx hb h => spoilt_calls wx A n c Z (Row.below hZ hb) hn h
  clear hZ hn
  have HN7 := Lib.hid (Vl.seven_n Z (min n 80))
  generalize (Vl.seven).acts Z (min n 80) = l at HBg HI HBI HN7
  go_enter Try.func5, Try.ntmps5
  go_upto_region 2 with (first
    | (go_at_call 19; (refine (HBg.out).mono ?_); rintro e w1 ⟨g, rfl, h⟩; have H1 := Lib.hid h; clear h))
  have HLo := Lib.hid (fun wx (h : Vw w wx g l) => h.low)
  have HVw := Lib.hid (fun wx (h : Vw w wx g l) => h.view)
  have HKe := Lib.hid (H1.out.kept2)
  have hlow := H1.out.ok.low
  have HFine := Lib.hid (fun i hi => Vl.kept_fine H1.out.ok HI.out HBI.out HN7.out (i := i) hi)
  have HRis := Lib.hid (Vl.kept_rising HI.out)
  have hm8 := Vl.keptN_le l 8
  obtain ⟨lo, hlo⟩ : ∃ lo, Hid (l.low = lo) := ⟨_, Lib.hid rfl⟩
  obtain ⟨lv, hlv⟩ : ∃ lv, Hid (l.view = lv) := ⟨_, Lib.hid rfl⟩
  rw [hlo.out] at HLo hlow
  rw [hlv.out] at HVw
  obtain ⟨hlow0, hlow1⟩ := hlow
  obtain ⟨m, hm⟩ : ∃ m, Hid (l.kept.length = m) := ⟨_, Lib.hid rfl⟩
  have hm8 : m ≤ 8 := by rw [← hm.out]; exact hm8
  go_upto_region 5 with (first
    | (go_at_call 22; (refine (HKe.out).mono ?_); rintro e w2 ⟨A1, c1, rfl, hk, hb⟩; have HK2 := Lib.hid hk; have hb2 := Lib.hid hb; clear hk hb))
  obtain ⟨b, o, bl, ol, cl, hop⟩ := HK2.out.opened2
  have HOp := Lib.hid hop
  clear hop HK2 HKe
  rw [hm.out] at HOp ⊢
  go_wp2
  go_loopg [5] (m + 1) (fun gk s5 wr => ∃ i : Nat, gk = m + 1 - i ∧ i ≤ m ∧ s5 = .int .i64 (i : Int) ∧ Hid (Spoil w1 w2 wr m b bl ol i))
  case atStart => exact ⟨0, rfl, Nat.zero_le _, rfl, Lib.hid (Spoil.start hb2.out m b bl ol)⟩
  case round =>
    obtain ⟨i, rfl, hi, rfl, hsp⟩ := hrel
    have i0 : (0 : Int) ≤ (i : Int) := by omega
    by_cases hlt : i < m
    · have hltI : (i : Int) < (m : Int) := by omega
      obtain ⟨hAe, hT⟩ := HOp.out (by omega)
      subst hAe
      have HT := Lib.hid hT
      have hF := HFine.out i (by rw [hm.out]; exact hlt)
      have HFr := Lib.hid hF
      have hPrev : Hid (0 < i → (l.kept.getD (i - 1) Kb.none).seq < (l.kept.getD i Kb.none).seq) := Lib.hid fun h0 => Vl.pairwise_get HRis.out Kb.none (by omega) (by rw [hm.out]; exact hlt)
      obtain ⟨t1, t2, t3, t4⟩ := hT
      obtain ⟨a1, a2, a3, ⟨x0, x1, x2, x3, x4, x5, x6, x7⟩, a5⟩ := t3 i (by rw [hm.out]; exact hlt)
      have hcp : Hid (0 < i → w2.cell? ⟨b, o + (i - 1) * 8 + 2, none⟩ = some (.int .i64 (l.kept.getD (i - 1) Kb.none).seq)) := Lib.hid fun h0 => (t3 (i - 1) (by rw [hm.out]; omega)).2.2.2.1.2.2.1
      have hbe := hsp.out.2.2.1 (by omega)
      have hle := hsp.out.2.2.2.1 i (Nat.le_refl _) hlt
      have cb : ∀ k, wr.cell? ⟨b, k, none⟩ = w2.cell? ⟨b, k, none⟩ := fun k => World.cell?_of_block (a := ⟨b, k, none⟩) hbe
      rw [← cb] at x0 x1 x2 x3 x4 x5 x6 x7
      have hcp2 : Hid (∀ wx, Below wr.heap.size wr wx → 0 < i → wx.cell? ⟨b, o + (i - 1) * 8 + 2, none⟩ = some (.int .i64 (l.kept.getD (i - 1) Kb.none).seq)) := Lib.hid fun wx hh h0 => by
        rw [below_cell hh (Nat.lt_of_lt_of_le t2 hsp.out.2.1), cb]; exact hcp.out h0
      have hls : Hid (∀ wx, Below wr.heap.size wr wx → ∀ j, j < (l.kept.getD i Kb.none).list.length * 3 → wx.cell? ⟨bl i, ol i + j, none⟩ = some ((scells (l.kept.getD i Kb.none).list).getD j (.bool false)) ∧ wx.frozen? ⟨bl i, ol i + j, none⟩ = false) := Lib.hid fun wx hh j hj => by
        have e : wx.heap[bl i]? = w2.heap[bl i]? := (hh.block (bl i) (Nat.lt_of_lt_of_le a2 hsp.out.2.1)).trans hle
        rw [World.cell?_of_block (a := ⟨bl i, ol i + j, none⟩) e, World.frozen?_of_block (a := ⟨bl i, ol i + j, none⟩) e]
        exact a5 j hj
      have Hx := Lib.hid (H1.out.next hsp.out.1)
      clear t1 t2 t3 t4 a1 a2 a3 a5 cb hbe hle hcp
      generalize l.kept.getD (i - 1) Kb.none = kp at hPrev hcp2
      generalize l.kept.getD i Kb.none = kb at x0 x1 x2 x5 x6 x7 hF HFr hPrev hls
      obtain ⟨f1, f2, ⟨f3, f4⟩, f5, f6, -, -, -⟩ := hF
      rw [hlv.out] at f2
      rw [hlo.out] at f3 f4
      obtain ⟨kd, kw, kq, kg, kt, kl⟩ := kb
      simp only at x0 x1 x2 x5 x6 x7 f1 f2 f3 f4 f5 f6 hPrev hls
      subst f1
      rw [f5] at x7
      have HF5 := Lib.hid f5
      clear f5
      have d1 : decide (lv < kw) = false := by simpa using f2
      have d2 : decide (kq ≤ lo) = false := by simpa using f3
      have d3 : decide (lo + 8 < kq) = false := by simpa using f4
      obtain ⟨t1, t2, t3⟩ := text_none f6
      clear f6
      have hw8 : IntKind.i64.wrap (lo + 8) = lo + 8 := by rw [IntKind.wrap_i64]; omega
      go_upto_region 9 with (fail)
      have hby : Hid (Below wr.heap.size wr (wr.alloc (.cells #[.int .i64 11, .int .i64 kw, .int .i64 kq, .int .i64 0, .int .i64 0, .string kg, .string kt, .slice (some ⟨bl i, ol i, none⟩) 5 (cl i)] 46))) := Lib.hid ((Below.refl _ _).alloc (Nat.le_refl _) _)
      have BB : Hid (Blk (wr.alloc (.cells #[.int .i64 11, .int .i64 kw, .int .i64 kq, .int .i64 0, .int .i64 0, .string kg, .string kt, .slice (some ⟨bl i, ol i, none⟩) 5 (cl i)] 46)) wr.heap.size 46 #[.int .i64 11, .int .i64 kw, .int .i64 kq, .int .i64 0, .int .i64 0, .string kg, .string kt, .slice (some ⟨bl i, ol i, none⟩) 5 (cl i)]) := Lib.hid (Blk.new _ _ _)
      clear x0 x1 x2 x3 x4 x5 x6 x7
      obtain ⟨gb, hgb⟩ : ∃ gb, wr.heap.size = gb := ⟨_, rfl⟩
      have HGB := Lib.hid hgb
      rw [hgb] at BB ⊢
      clear hgb
      generalize World.alloc wr _ = wy at hby BB ⊢
      have q0 : wy.cell? ⟨gb, 0, none⟩ = some (.int .i64 11) := BB.out.cell 0
      have q1 : wy.cell? ⟨gb, 1, none⟩ = some (.int .i64 kw) := BB.out.cell 1
      have q2 : wy.cell? ⟨gb, 2, none⟩ = some (.int .i64 kq) := BB.out.cell 2
      have q5 : wy.cell? ⟨gb, 5, none⟩ = some (.string kg) := BB.out.cell 5
      have q7 : wy.cell? ⟨gb, 7, none⟩ = some (.slice (some ⟨bl i, ol i, none⟩) 5 (cl i)) := BB.out.cell 7
      have Hy := Lib.hid (Hx.out.next hby.out)
      go_cut [76] from 16 to 120 (fun s76 wc => s76 = .bool false ∧ ∃ nd, wc = wy.drewN nd)
      case first =>
        by_cases hi0 : i = 0
        · subst hi0
          go_quiet (first
            | (go_at_call 23; (with_reducible refine (HVw.out _ (Hy.out.drewN _)).mono ?_); rintro e w' ⟨rfl, rfl⟩; exact ⟨rfl, _, rfl⟩)
            | (go_at_call 20; (with_reducible refine (HLo.out _ (Hy.out.drewN _)).mono ?_); rintro e w' ⟨rfl, rfl⟩; exact ⟨rfl, _, rfl⟩))
          go_wp2_with fail
          go_meet
          exact ⟨rfl, _, rfl⟩
        · obtain ⟨i', rfl⟩ : ∃ i', i = i' + 1 := ⟨i - 1, by omega⟩
          have hp := hPrev.out (by omega)
          have hc := hcp2.out _ hby.out (by omega)
          rw [show i' + 1 - 1 = i' from rfl] at hc
          have e1 : ((i' + 1 : Nat) : Int) = (i' : Int) + 1 := by omega
          rw [e1]
          have j0 : (0 : Int) ≤ (i' : Int) := by omega
          have j1 : (0 : Int) < (i' : Int) + 1 := by omega
          have j2 : (i' : Int) < (m : Int) := by omega
          generalize kp.seq = ks at hp hc
          have d4 : decide (kq ≤ ks) = false := by simpa using hp
          have hw1 : IntKind.i64.wrap ((i' : Int) + 1 - 1) = (i' : Int) := by rw [IntKind.wrap_i64]; omega
          have hw2 : IntKind.i64.wrap (i' : Int) = (i' : Int) := by rw [IntKind.wrap_i64]; omega
          clear e1 hi0 hlt hltI i0 hi
          go_quiet (first
            | (go_at_call 23; (with_reducible refine (HVw.out _ (Hy.out.drewN _)).mono ?_); rintro e w' ⟨rfl, rfl⟩; exact ⟨rfl, _, rfl⟩)
            | (go_at_call 20; (with_reducible refine (HLo.out _ (Hy.out.drewN _)).mono ?_); rintro e w' ⟨rfl, rfl⟩; exact ⟨rfl, _, rfl⟩))
          go_wp2_with fail
          go_meet
          exact ⟨rfl, _, rfl⟩
      case rest =>
        obtain ⟨rfl, nd, hwc⟩ := hcut
        have hb9 : Hid (Below wr.heap.size wr wc) := Lib.hid (by rw [hwc]; exact below_draw hby.out nd)
        have B9 : Hid (Blk wc gb 46 #[.int .i64 11, .int .i64 kw, .int .i64 kq, .int .i64 0, .int .i64 0, .string kg, .string kt, .slice (some ⟨bl i, ol i, none⟩) 5 (cl i)]) := Lib.hid (by rw [hwc]; exact BB.out.drewN nd)
        clear hwc hby BB q0 q1 q2 q5 q7 Hy hw8 d1 d2 d3 t1 t2 t3
        obtain ⟨w9, hw9⟩ : ∃ w9, w9 = wc := ⟨_, rfl⟩
        subst hw9
        have HSt : Hid (∀ wz, Below wr.heap.size wr wz → (wz.cell? ⟨bl i, ol i + 1, none⟩).isSome = true → Spoil w1 w2 (wz.setCell ⟨bl i, ol i + 1, none⟩ (.string tS)) m b bl ol (i + 1)) := Lib.hid fun wz hh hc => hsp.out.step HT.out hm.out hlt hh hc
        obtain ⟨w5, hw5⟩ : ∃ w5, w5 = wr := ⟨_, rfl⟩
        subst hw5
        obtain ⟨bi, hbi⟩ : ∃ bi, Hid (bl i = bi) := ⟨_, Lib.hid rfl⟩
        obtain ⟨oi, hoi⟩ : ∃ oi, Hid (ol i = oi) := ⟨_, Lib.hid rfl⟩
        obtain ⟨ci, hci⟩ : ∃ ci, Hid (cl i = ci) := ⟨_, Lib.hid rfl⟩
        rw [hbi.out, hoi.out, hci.out] at B9
        rw [hbi.out, hoi.out] at hls HSt
        clear hsp Hx hcp2 HT
        go_wp2
        go_loopg [7] 6 (fun gk s7 wz => ∃ j : Nat, gk = 6 - j ∧ j ≤ 5 ∧ s7 = .int .i64 (j : Int) ∧ Hid (Below w9.heap.size w9 wz))
        case atStart => exact ⟨0, rfl, Nat.zero_le _, rfl, Lib.hid (Below.refl _ _)⟩
        case round =>
          obtain ⟨j, rfl, hj, rfl, hbz⟩ := hrel
          have j0 : (0 : Int) ≤ (j : Int) := by omega
          have q7 : wr.cell? ⟨gb, 7, none⟩ = some (.slice (some ⟨bi, oi, none⟩) 5 ci) := (B9.out.below hbz.out B9.out.lt).cell 7
          have hlz := hls.out wr (below_next hb9.out hbz.out)
          by_cases hjl : j < 5
          · have hjI : (j : Int) < 5 := by omega
            have hjl2 : j < kl.length := by rw [HF5.out]; exact hjl
            obtain ⟨g1, -, -⟩ := scells_get kl hjl2
            have cj := (hlz (j * 3) (by omega)).1
            rw [g1] at cj
            have hfr := HFr.out.frm (kl.getD j Sg.none) (getD_mem hjl2)
            have hpv : Hid (0 < j → (kl.getD (j - 1) Sg.none).frm < (kl.getD j Sg.none).frm) := Lib.hid fun h0 => Vl.pairwise_get HFr.out.rising Sg.none (by omega) hjl2
            have cpv : Hid (0 < j → wr.cell? ⟨bi, oi + (j - 1) * 3, none⟩ = some (.int .i64 (kl.getD (j - 1) Sg.none).frm)) := Lib.hid fun h0 => by
              have := (hlz ((j - 1) * 3) (by omega)).1
              rw [(scells_get kl (show j - 1 < kl.length by omega)).1] at this
              exact this
            clear hlz g1 hjl2
            generalize (kl.getD j Sg.none).frm = fj at cj hfr hpv
            generalize (kl.getD (j - 1) Sg.none).frm = fp at hpv cpv
            obtain ⟨r0, r6⟩ := hfr
            have d1 : decide (fj < 0) = false := by simpa using r0
            have d2 : decide (6 < fj) = false := by simp; omega
            go_upto_region 14 with (fail)
            by_cases hj0 : j = 0
            · subst hj0
              simp only [Nat.zero_mul, Nat.add_zero] at cj
              rw [show ((0 : Nat) : Int) = 0 from rfl]
              clear hpv cpv
              go_quiet (fail)
              go_wp2
              go_roundg (6 - (0 + 1))
              case measure => omega
              case rel => exact ⟨0 + 1, rfl, by omega, by go_num, Lib.hid (below_draw hbz.out _)⟩
            · obtain ⟨j', rfl⟩ : ∃ j', j = j' + 1 := ⟨j - 1, by omega⟩
              have hp := hpv.out (by omega)
              have hc := cpv.out (by omega)
              rw [show j' + 1 - 1 = j' from rfl] at hc
              have e1 : ((j' + 1 : Nat) : Int) = (j' : Int) + 1 := by omega
              rw [e1] at hjI j0 ⊢
              have k0 : (0 : Int) ≤ (j' : Int) := by omega
              have k1 : (0 : Int) < (j' : Int) + 1 := by omega
              have k2 : (j' : Int) < 5 := by omega
              have k3 : (j' : Int) + 1 < 5 := by omega
              have k4 : ((j' : Int) + 1).toNat = j' + 1 := by omega
              have d4 : decide (fj ≤ fp) = false := by simpa using hp
              have hw1 : IntKind.i64.wrap ((j' : Int) + 1 - 1) = (j' : Int) := by rw [IntKind.wrap_i64]; omega
              have hw2 : IntKind.i64.wrap (j' : Int) = (j' : Int) := by rw [IntKind.wrap_i64]; omega
              clear hj0 hp
              go_quiet (fail)
              clear hw1 hw2 k4 d1 d2 d4 e1
              go_wp2
              go_roundg (6 - (j' + 1 + 1))
              case measure => omega
              case rel => exact ⟨j' + 1 + 1, rfl, by omega, by go_num, Lib.hid (below_draw hbz.out _)⟩
          · obtain rfl : j = 5 := by omega
            have c1 := (hlz 1 (by rw [HF5.out]; omega)).1
            have f1 := (hlz 1 (by rw [HF5.out]; omega)).2
            have HS2 := Lib.hid (HSt.out wr (below_next hb9.out hbz.out) (by rw [c1]; rfl))
            clear hlz hjl hj
            unfold tS at HS2
            go_wp2
            go_roundg (m + 1 - (i + 1))
            case measure => omega
            case rel => exact ⟨i + 1, rfl, by omega, by go_num, HS2⟩
    · obtain rfl : i = m := by omega
      have Hx := Lib.hid (H1.out.next hsp.out.1)
      have HK9 := Lib.hid Hx.out.kept
      rw [hm.out] at HK9
      clear hlt hi
      obtain ⟨w4, hw4⟩ : ∃ w4, w4 = wr := ⟨_, rfl⟩
      subst hw4
      go_upto_region 18 with (first
        | (go_at_call 22; (refine (HK9.out).mono ?_); rintro e w5 ⟨A2, c2, rfl, hk, hb⟩; have HK5 := Lib.hid hk; have hb5 := Lib.hid hb; clear hk hb))
      clear HK9
      go_wp2
      go_loopg [9] (i + 1) (fun gk s9 wx => ∃ k : Nat, gk = i + 1 - k ∧ k ≤ i ∧ s9 = .int .i64 (k : Int) ∧ Hid (Below w5.heap.size w5 wx))
      case atStart => exact ⟨0, rfl, Nat.zero_le _, rfl, Lib.hid (Below.refl _ _)⟩
      case round =>
        obtain ⟨k, rfl, hk, rfl, hbx⟩ := hrel
        have k0 : (0 : Int) ≤ (k : Int) := by omega
        have hb9 : Hid (Below w4.heap.size w4 wr) := Lib.hid (below_next hb5.out hbx.out)
        by_cases hlt : k < i
        · have hltI : (k : Int) < (i : Int) := by omega
          have hkl : k < l.kept.length := by rw [hm.out]; exact hlt
          obtain ⟨hAe, hT⟩ := HOp.out (by omega)
          subst hAe
          have HFr := Lib.hid (HFine.out k hkl)
          obtain ⟨t1, t2, t3, t4⟩ := hT
          obtain ⟨a1, a2, a3, ⟨-, -, -, -, -, -, -, x7⟩, -⟩ := t3 k hkl
          have hbe := hsp.out.2.2.1 (by omega)
          have x7' : wr.cell? ⟨b, o + k * 8 + 7, none⟩ = some (.slice (some ⟨bl k, ol k, none⟩) (l.kept.getD k Kb.none).list.length (cl k)) := by
            rw [below_cell hb9.out (Nat.lt_of_lt_of_le t2 hsp.out.2.1), World.cell?_of_block (a := ⟨b, o + k * 8 + 7, none⟩) hbe]; exact x7
          have xs : wr.cell? ⟨bl k, ol k + 1, none⟩ = some (.string tS) := by
            rw [below_cell hb9.out (Nat.lt_of_lt_of_le a2 hsp.out.2.1)]; exact hsp.out.2.2.2.2 k hlt
          obtain ⟨b2, o2, bl2, ol2, cl2, rfl, -, -, ⟨-, -, -, -, -, -, -, y7⟩, ry⟩ := (HK5.out.below hbx.out).cells (i := k) hkl
          clear t1 t2 t3 t4 a1 a2 a3 x7 hbe
          generalize l.kept.getD k Kb.none = kb at x7' y7 ry HFr
          rw [HFr.out.len] at x7' y7
          have hs5 : 0 < kb.list.length := by rw [HFr.out.len]; omega
          obtain ⟨b3, o3, e3, hc3⟩ := SRow.cells (w := wr) (A := some ⟨bl2, ol2, none⟩) (L := kb.list) ry (i := 0) hs5
          cases e3
          have ys := (hc3 wr (Below.refl _ _)).2.1
          simp only [Nat.zero_mul, Nat.add_zero] at ys
          have hbody := HFr.out.body (kb.list.getD 0 Sg.none) (getD_mem hs5)
          clear hc3 ry hs5
          generalize (kb.list.getD 0 Sg.none).body = bd at ys hbody
          generalize bl k = bk at x7' xs
          generalize ol k = ok at x7' xs
          unfold tS at xs
          by_cases hbd : bd = tS
          · subst hbd
            have HX := Lib.hid hbody
            have HSx := Lib.hid (HSp.out wr (below_next (below_next H1.out.all hsp.out.1) hb9.out) HX.out)
            clear hbody
            unfold tS at ys
            go_wp2_with (first
              | (go_at_call 24; (with_reducible refine (HSx.out).mono ?_); rintro e w6 ⟨rfl, rfl⟩))
            go_roundg (i + 1 - (k + 1))
            case measure => omega
            case rel => exact ⟨k + 1, rfl, by omega, by go_num, hbx⟩
          · have u1 := text_ne hbd
            have u2 := text_apart hbd
            rw [tS_list] at u1 u2
            clear hbd hbody
            go_wp2
            go_roundg (i + 1 - (k + 1))
            case measure => omega
            case rel => exact ⟨k + 1, rfl, by omega, by go_num, hbx⟩
        · obtain rfl : k = i := by omega
          clear hlt hk
          have H9 := Lib.hid (Hx.out.next hb9.out)
          go_wp2_with (first
            | (go_at_call 14; (with_reducible refine (HA.out _).mono ?_); rintro e w9 ⟨rfl, ha⟩; have HA8 := Lib.hid ha; clear ha))
          go_ret
          exact ⟨rfl, below_next H9.out.all HA8.out⟩
end Go.Proofs.Ytedndjbhgbdpoaa
