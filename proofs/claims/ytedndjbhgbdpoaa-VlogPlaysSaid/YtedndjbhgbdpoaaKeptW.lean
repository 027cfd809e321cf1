/- The walk of Kept. -/
import Derived.Test.YtedndjbhgbdpoaaKept
namespace Go.Proofs.Ytedndjbhgbdpoaa
open Go.RowKit
theorem kept_src {w : World} {g : Nat} {v : Value} {L : List Sg} (h : ListAt w g v L) : Src Try.prog 3 44 v L.length (scells L) w := by
  rcases h with ⟨rfl, rfl⟩ | ⟨b, o, c, rfl, _, h3⟩
  · exact Src.ofNil _ Try.underlying44 0
  · refine Src.ofSlice _ Try.underlying44 ⟨b, o, none⟩ L.length c (scells L) (scells_length L) (fun j u hu => ?_) scells_one
    have hj : j < L.length * 3 := by
      have := (List.getElem?_eq_some_iff.1 hu).1
      rwa [scells_length] at this
    obtain ⟨b', o', e, h1, h2⟩ := Row.at_ h3 hj
    cases e
    rw [show (⟨b, o, none⟩ : Addr).add j = ⟨b, o + j, none⟩ from by simp [Addr.add_lit], h2, List.getD_eq_getElem?_getD, hu]; rfl
set_option maxHeartbeats 8000000 in
set_option maxRecDepth 100000 in
theorem kept_calls {w : World} {g gm : Nat} {gv : Nat → Nat → Option Nat} {kv : Nat → Value} {l : Vl} (h : AtV w g gm gv kv l) :
    Calls Try.prog 22 #[.pointer (some ⟨g, 0, none⟩)] w fun e w' => ∃ A c, e = .returned (.slice A l.kept.length c) ∧ KeptAt w w' (.slice A l.kept.length c) l.kept ∧ Below w.heap.size w w' := by
  have H := Lib.hid h
  have hlow := h.ok.low
  obtain ⟨q, hq, hq3, hq9, _⟩ := Vl.quorum_some h.ok
  have HK : Hid (∀ k, (l.slots k).kept.kind ≠ 0 → ((l.slots k).kept.list.length : Int) = (q : Int)) := Lib.hid fun k hk => by
    rcases h.ok.kept k with h1 | h1
    · exact absurd h1.1 hk
    · rw [← hq]; exact h1.2.2.2
  obtain ⟨low, hl0⟩ : ∃ low, Hid (l.low = low) := ⟨_, Lib.hid rfl⟩
  rw [hl0.out] at hlow
  obtain ⟨hlow0, hlow1⟩ := hlow
  have HLow : Hid (∀ wr, Below w.heap.size w wr → wr.cell? ⟨g, 2, none⟩ = some (.int .i64 low)) := Lib.hid fun wr hb => by
    rw [← hl0.out]
    exact (H.out.below hb).head.2.2.1
  have HA := Lib.hid (fun w s h => at_calls w g s h)
  have HN : Hid (∀ i : Nat, l.keptN (i + 1) = l.keptN i ++ (if (l.slots (ix (low + 1 + (i : Int)))).kept.kind ≠ 0 then [(l.slots (ix (low + 1 + (i : Int)))).kept] else [])) := Lib.hid fun i => by
    rw [← hl0.out]
    exact l.keptN_snoc i
  have HEnd : Hid (l.keptN 8 = l.kept) := Lib.hid rfl
  clear h hq
  obtain ⟨i1, hi1, hy0, hy1, hy2⟩ := info_parts info_sg
  have HI1 := Lib.hid hi1
  have HY0 := Lib.hid hy0
  have HY1 := Lib.hid hy1
  have HY2 := Lib.hid hy2
  clear hi1 hy0 hy1 hy2
  obtain ⟨i2, hi2, hy0, hy1, hy2⟩ := info_parts info_body
  have HI2 := Lib.hid hi2
  have HZ0 := Lib.hid hy0
  have HZ1 := Lib.hid hy1
  have HZ2 := Lib.hid hy2
  clear hi2 hy0 hy1 hy2
  have c2 := HLow.out w (Below.refl _ _)
  go_enter Try.func22, Try.ntmps22
  go_wp2
  clear c2
  go_loopg [3, 4] 9 (fun gk s3 s4 wr => ∃ i A c, gk = 9 - i ∧ i ≤ 8 ∧ s4 = .int .i64 (low + 1 + (i : Int)) ∧ s3 = .slice A (l.keptN i).length c ∧ Hid (KeptAt w wr (.slice A (l.keptN i).length c) (l.keptN i)) ∧ Hid (Below w.heap.size w wr))
  case atStart => exact ⟨0, none, 0, rfl, by omega, by simp, rfl, Lib.hid (KeptAt.empty _ _ _), Lib.hid (Below.refl _ _)⟩
  case round =>
    obtain ⟨i, A, c, rfl, hi, rfl, rfl, hka, hb⟩ := hrel
    have i0 : (0 : Int) ≤ (i : Int) := by omega
    have c2 := HLow.out wr hb.out
    by_cases hlt : i < 8
    · have hltI : low + 1 + (i : Int) ≤ low + 8 := by omega
      have hsn := Lib.hid (HN.out i)
      have hle := Vl.keptN_le l i
      have HAi := Lib.hid (fun w => HA.out w (low + 1 + (i : Int)) (by omega))
      have hk8 := ix_lt (low + 1 + (i : Int))
      generalize ix (low + 1 + (i : Int)) = k at hsn HAi hk8
      have hA := H.out.below hb.out
      obtain ⟨⟨x0, x1, x2, x3, x4, x5, x6, x7⟩, -⟩ := hA.kcells hk8
      have HLs := Lib.hid (hA.lists k hk8)
      have HKk := Lib.hid (HK.out k)
      obtain ⟨kb, hkb⟩ : ∃ kb, Hid ((l.slots k).kept = kb) := ⟨_, Lib.hid rfl⟩
      rw [hkb.out] at x0 x1 x2 x5 x6 HLs HKk hsn
      obtain ⟨u, hu⟩ : ∃ u, Hid (kv k = u) := ⟨_, Lib.hid rfl⟩
      rw [hu.out] at x7 HLs
      obtain ⟨kd, kw, kq, kg, kt, kl⟩ := kb
      simp only at x0 x1 x2 x5 x6
      obtain ⟨X, cX, rfl⟩ : ∃ X cX, u = .slice X kl.length cX := by
        rcases HLs.out with ⟨h1, h2⟩ | ⟨b, o, c', h1, _, _⟩
        · have h2' : kl = [] := h2
          rw [h2']; exact ⟨_, _, h1⟩
        · exact ⟨_, _, h1⟩
      have HSr : Hid (∀ wr', Below wr.heap.size wr wr' → Src Try.prog 3 44 (.slice X kl.length cX) kl.length (scells kl) wr') := Lib.hid fun wr' hb' => kept_src (HLs.out.carry (fun b _ hlt _ => hb'.block b hlt) hb'.size)
      obtain ⟨m, hmm⟩ : ∃ m, Hid ((l.keptN i).length = m) := ⟨_, Lib.hid rfl⟩
      rw [hmm.out] at hka hle ⊢
      have hm8 : m ≤ 8 := by omega
      clear hle hA
      by_cases hz : kd = 0
      · have hz2 : (kd != 0) = false := by simpa using hz
        have E : Hid (l.keptN (i + 1) = l.keptN i) := Lib.hid (by rw [hsn.out, if_neg (by simpa using hz), List.append_nil])
        clear hsn
        go_wp2_with (first
          | (go_at_call 35; (with_reducible refine (HAi.out _).mono ?_); rintro e w1 ⟨rfl, rfl⟩))
        go_roundg (9 - (i + 1))
        case measure => omega
        case rel => exact ⟨i + 1, A, c, rfl, by omega, by go_num, by rw [E.out, hmm.out], Lib.hid (by rw [E.out, hmm.out]; exact hka.out.below ((Below.refl _ _).alloc (Nat.le_refl _) _)), Lib.hid (hb.out.alloc hb.out.size _)⟩
      · have hz2 : (kd != 0) = true := by simpa using hz
        have E : Hid (l.keptN (i + 1) = l.keptN i ++ [⟨kd, kw, kq, kg, kt, kl⟩]) := Lib.hid (by rw [hsn.out, if_pos (by simpa using hz)])
        have hkl : Hid (kl.length = q) := Lib.hid (by have := HKk.out hz; simp only at this; omega)
        clear hsn
        go_upto_region 9 with (first
          | (go_at_call 35; (with_reducible refine (HAi.out _).mono ?_); rintro e w1 ⟨rfl, rfl⟩))
        have hb2 := Lib.hid ((Below.refl wr.heap.size wr).alloc (Nat.le_refl _) (.cells #[.int .i64 kd, .int .i64 kw, .int .i64 kq, .int .i64 0, .int .i64 0, .string kg, .string kt, .slice X kl.length cX] 46))
        have D2 : Hid (Blk (wr.alloc (.cells #[.int .i64 kd, .int .i64 kw, .int .i64 kq, .int .i64 0, .int .i64 0, .string kg, .string kt, .slice X kl.length cX] 46)) wr.heap.size 46 #[.int .i64 kd, .int .i64 kw, .int .i64 kq, .int .i64 0, .int .i64 0, .string kg, .string kt, .slice X kl.length cX]) := Lib.hid (Blk.new _ _ _)
        have hgd : w.heap.size ≤ wr.heap.size := hb.out.size
        clear x0 x1 x2 x3 x4 x5 x6 x7 c2
        generalize hgd2 : wr.heap.size = gd at D2 hgd ⊢
        have HGD := Lib.hid hgd2
        generalize World.alloc wr _ = wy at hb2 D2 ⊢
        have d7 : (wy.alloc (.cells #[] 48)).cell? ⟨gd, 7, none⟩ = some (.slice X kl.length cX) := (D2.out.alloc _).cell 7
        have HS2 := Lib.hid (HSr.out (wy.alloc (.cells #[] 48)) (below_next hb2.out ((Below.refl _ _).alloc (Nat.le_refl _) _)))
        have hby := Lib.hid (below_next hb.out hb2.out)
        clear HSr HLs HAi HKk hgd2
        rw [hkl.out] at d7 HS2 ⊢
        go_upto_region 10 with (first
          | (refine wpList_append_mine rfl (.tmp 34) (.tmp 36) 44 44 rfl 48 i1 (.agg #[.int .i64 0, .string noText, .string noText]) 40 Try.underlying44 HI1.out HY0.out HY1.out HY2.out rfl (by decide) rfl (Mine.empty wy _ 3 _) ((Below.refl wy.heap.size wy).alloc (Nat.le_refl _) _) _ q (scells kl) rfl HS2.out (by unfold maxLen; omega) (by omega) ?_; intro A2 c2 w2 hm4 hb4; have HM4 := Lib.hid hm4; have HB4 := Lib.hid hb4; have e7 := (D2.out.below hb4 D2.out.lt).cell 7; have f7 := (D2.out.below hb4 D2.out.lt).frozen 7; clear hm4 hb4))
        rw [Nat.zero_add, List.nil_append] at HM4
        have D3 := Lib.hid ((D2.out.below HB4.out D2.out.lt).set_ 7 (.slice A2 q c2))
        have hne : Hid (∀ b, wy.heap.size ≤ b → b ≠ gd) := Lib.hid fun b hb' e => by have := D2.out.lt; omega
        have O3 : Hid (Only (fun b => b = gd) wy (w2.setCell ⟨gd, 7, none⟩ (.slice A2 q c2))) := Lib.hid ((Only.of_below (S := fun b => b = gd) HB4.out).setCell (.inl rfl) _)
        have hKL : Hid (∀ bk, (∀ b, bk = some b → b < wy.heap.size) → KL w (w2.setCell ⟨gd, 7, none⟩ (.slice A2 q c2)) bk (.slice A2 q c2) kl) := Lib.hid fun bk hbk => by
          obtain ⟨b, o, hAe, h1, h2, _, h3⟩ := mine_list HM4.out (by omega)
          refine ⟨b, o, c2, by rw [hAe, hkl.out], Nat.le_trans hby.out.size h1, by simpa using h2, fun e => ?_, fun j hj => ?_⟩
          · have := hbk b e.symm
            omega
          · rw [World.cell?_setCell_other _ _ _ _ (by simp; intro e; exact absurd e.symm (hne.out b h1))]
            exact h3 j (by rw [← hkl.out]; exact hj)
        have hsz3 : Hid (wy.heap.size ≤ (w2.setCell ⟨gd, 7, none⟩ (.slice A2 q c2)).heap.size) := Lib.hid (by simpa using HB4.out.size)
        clear e7 f7 d7
        generalize World.setCell w2 _ _ = w3 at D3 O3 hKL hsz3 ⊢
        have r0 : w3.cell? ⟨gd, 0, none⟩ = some (.int .i64 kd) := D3.out.cell 0
        have r1 : w3.cell? ⟨gd, 1, none⟩ = some (.int .i64 kw) := D3.out.cell 1
        have r2 : w3.cell? ⟨gd, 2, none⟩ = some (.int .i64 kq) := D3.out.cell 2
        have r3 : w3.cell? ⟨gd, 3, none⟩ = some (.int .i64 0) := D3.out.cell 3
        have r4 : w3.cell? ⟨gd, 4, none⟩ = some (.int .i64 0) := D3.out.cell 4
        have r5 : w3.cell? ⟨gd, 5, none⟩ = some (.string kg) := D3.out.cell 5
        have r6 : w3.cell? ⟨gd, 6, none⟩ = some (.string kt) := D3.out.cell 6
        have r7 : w3.cell? ⟨gd, 7, none⟩ = some (.slice A2 q c2) := D3.out.cell 7
        obtain ⟨bk, vs, hvs, hown, hbk, hKLs⟩ := hka.out
        rw [hmm.out] at hown
        have hbkl : ∀ b, bk = some b → b < wr.heap.size := fun b e => hown.lt e
        have hbw3 : Below wr.heap.size wr w3 := hb2.out.trans ((O3.out.below (B := wr.heap.size) hb2.out.size fun b e => by have := HGD.out; omega))
        have OW3 := Lib.hid (hown.carry hbw3.size fun b e => hbw3.block b (hbkl b e))
        have KL3 : Hid (∀ (j : Nat) (k : Kb) (u : Value), (l.keptN i)[j]? = some k → vs[j]? = some u → KL w w3 bk u k.list) := Lib.hid fun j k u h1 h2 => (hKLs j k u h1 h2).carry hbw3.size (fun b hlt _ _ => hbw3.block b hlt) (.inl rfl)
        have KN3 := Lib.hid (hKL.out bk fun b e => Nat.lt_of_lt_of_le (hbkl b e) hb2.out.size)
        have HVS := Lib.hid hvs
        have HBK := Lib.hid hbk
        have hb3 := Lib.hid (hb.out.trans (hbw3.mono hb.out.size))
        clear hown hbkl hbw3 hKLs hvs hbk hKL hne O3 hb2 HM4 HB4 D2 hsz3 hka
        go_wp2_with (first
          | (refine wpList_append_own2 rfl (.tmp 39) (.tmp 41) 42 42 rfl 46 i2 (.agg #[.int .i64 0, .int .i64 0, .int .i64 0, .int .i64 0, .int .i64 0, .string noText, .string noText, .slice none 0 0]) 96 Try.underlying42 HI2.out HZ0.out HZ1.out HZ2.out rfl (by decide) rfl (OW3.out.below ((Below.refl _ _).alloc (Nat.le_refl _) _)) _ 1 [.int .i64 kd, .int .i64 kw, .int .i64 kq, .int .i64 0, .int .i64 0, .string kg, .string kt, .slice A2 q c2] rfl (src_new Try.underlying42 _ _ _ 1 1 rfl (by simp [Value.oneCell'])) (by unfold maxLen; omega) (by omega) ?_; intro A5 c5 w5 b5 hown5 hg5 hk5; have HO5 := Lib.hid hown5; have HG5 := Lib.hid hg5; have HK5 := Lib.hid hk5; clear hown5 hg5 hk5))
        go_roundg (9 - (i + 1))
        case measure => omega
        case rel =>
          have hlen : (l.keptN (i + 1)).length = m + 1 := by rw [E.out, List.length_append, hmm.out]; rfl
          have hba : Below w3.heap.size w3 (w3.alloc (.cells #[.int .i64 kd, .int .i64 kw, .int .i64 kq, .int .i64 0, .int .i64 0, .string kg, .string kt, .slice A2 q c2] 46)) := (Below.refl _ _).alloc (Nat.le_refl _) _
          refine ⟨i + 1, A5, c5, rfl, by omega, by go_num, by rw [hlen], Lib.hid ?_, Lib.hid ?_⟩
          · rw [hlen, E.out]
            exact kept_step (k := ⟨kd, kw, kq, kg, kt, kl⟩) (u := .slice A2 q c2) hmm.out HVS.out HBK.out (fun j k u h1 h2 => (KL3.out j k u h1 h2).carry hba.size (fun b hlt _ _ => hba.block b hlt) (.inl rfl)) (KN3.out.carry hba.size (fun b hlt _ _ => hba.block b hlt) (.inl rfl)) (Nat.le_trans hb3.out.size hba.size) HO5.out HG5.out HK5.out
          · have := (Only.of_grown HG5.out).below (B := w.heap.size) (Nat.le_trans hb3.out.size hba.size) fun b e => HBK.out b e.symm
            exact (hb3.out.trans (hba.mono hb3.out.size)).trans this
    · obtain rfl : i = 8 := by omega
      rw [HEnd.out] at hka ⊢
      go_wp2
      go_ret
      exact ⟨A, c, rfl, hka.out, hb.out⟩
end Go.Proofs.Ytedndjbhgbdpoaa
