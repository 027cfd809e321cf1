/- The contract of keep. -/
import Derived.Test.YtedndjbhgbdpoaaVlP
import Derived.Test.YtedndjbhgbdpoaaQTail
namespace Go.Proofs.Ytedndjbhgbdpoaa
open Go.RowKit
theorem mine_list {w0 w : World} {A : Option Addr} {c m : Nat} {xs : List Value} (h : Mine w0 w 3 (.slice A m c) m xs) (hm : 0 < m) :
    ∃ b o, A = some ⟨b, o, none⟩ ∧ w0.heap.size ≤ b ∧ b < w.heap.size ∧ m ≤ c ∧ ∀ j, j < m * 3 → w.cell? ⟨b, o + j, none⟩ = some (xs.getD j (.bool false)) := by
  obtain ⟨b, ⟨h0, A', c', heq, h1, h2, h3⟩, hb⟩ := h
  cases heq
  rcases h3 with ⟨_, h4⟩ | ⟨g, off, rfl, rfl, hg, h5, h6⟩
  · omega
  · refine ⟨g, off, rfl, hb g rfl, hg, h1, fun j hj => ?_⟩
    rw [h6 j hj, List.getD_eq_getElem?_getD, List.getElem?_eq_getElem (by omega)]; rfl
theorem step_store_mid {P : Program} {ops : Array Oper} {op : Oper} {a : Act} {w : World} {K : Act → World → Prop} {Q : Exit → Act → World → Prop} {E : Prop} (ty : TypeId) (x y : Operand) (ho : op.op = .store ty x y)
    (b o : Nat) (cells : Array Value) (hx : a.eval x = .pointer (some ⟨b, o, none⟩)) (hy : a.eval y = .agg cells)
    (ht : w.there b o cells.size) (hi : (P.info? ty).map (·.size) = some cells.size) (h1 : cells.all (·.oneCell') = true) (hgd : op.guard = none)
    (h : K (a.put op.dst undef) (w.setCells b o cells.toList)) : if Region.wanted op (yielded ops a.tmps) = true then Oper.wp P op a w K Q else E := by
  have hw : Region.wanted op (yielded ops a.tmps) = true := by simp [Region.wanted, hgd]
  rw [if_pos hw]
  exact wp_store_mid ty x y ho b o cells hx hy ht hi h1 h
theorem scells_take (L : List Sg) (n j : Nat) (hj : j < n * 3) : (scells (L.take n)).getD j (.bool false) = (scells L).getD j (.bool false) := by
  have e : scells L = scells (L.take n) ++ scells (L.drop n) := by rw [← scells_append, List.take_append_drop]
  rw [e, List.getD_eq_getElem?_getD, List.getD_eq_getElem?_getD]
  by_cases h : j < (scells (L.take n)).length
  · rw [List.getElem?_append_left h]
  · rw [List.getElem?_eq_none (by omega)]
    have : n ≥ L.length := by
      rw [scells_length, List.length_take] at h
      omega
    rw [List.drop_eq_nil_of_le this]
    simp [scells]
    rw [List.take_of_length_le this]
    rw [List.getElem?_eq_none (by rw [scells_length, List.take_of_length_le this] at h; unfold scells at *; rw [← scells, scells_length]; omega)]; rfl
theorem AtV.kcells {w : World} {g gm : Nat} {gv : Nat → Nat → Option Nat} {kv : Nat → Value} {l : Vl} (h : AtV w g gm gv kv l) {k : Nat} (hk : k < 8) :
    (w.cell? ⟨g, 3 + k * 13 + 5, none⟩ = some (.int .i64 (l.slots k).kept.kind) ∧ w.cell? ⟨g, 3 + k * 13 + 5 + 1, none⟩ = some (.int .i64 (l.slots k).kept.view) ∧ w.cell? ⟨g, 3 + k * 13 + 5 + 2, none⟩ = some (.int .i64 (l.slots k).kept.seq) ∧ w.cell? ⟨g, 3 + k * 13 + 5 + 3, none⟩ = some (.int .i64 0) ∧
      w.cell? ⟨g, 3 + k * 13 + 5 + 4, none⟩ = some (.int .i64 0) ∧ w.cell? ⟨g, 3 + k * 13 + 5 + 5, none⟩ = some (.string (l.slots k).kept.digest) ∧ w.cell? ⟨g, 3 + k * 13 + 5 + 6, none⟩ = some (.string (l.slots k).kept.text) ∧ w.cell? ⟨g, 3 + k * 13 + 5 + 7, none⟩ = some (kv k)) ∧
    (w.frozen? ⟨g, 3 + k * 13 + 5, none⟩ = false ∧ w.frozen? ⟨g, 3 + k * 13 + 5 + 1, none⟩ = false ∧ w.frozen? ⟨g, 3 + k * 13 + 5 + 2, none⟩ = false ∧ w.frozen? ⟨g, 3 + k * 13 + 5 + 3, none⟩ = false ∧ w.frozen? ⟨g, 3 + k * 13 + 5 + 4, none⟩ = false ∧ w.frozen? ⟨g, 3 + k * 13 + 5 + 5, none⟩ = false ∧ w.frozen? ⟨g, 3 + k * 13 + 5 + 6, none⟩ = false ∧ w.frozen? ⟨g, 3 + k * 13 + 5 + 7, none⟩ = false) := by
  have e : ∀ j, j < 8 → w.cell? ⟨g, 3 + k * 13 + 5 + j, none⟩ = some (slotCell (l.slots k) (gv k) (kv k) (5 + j)) := fun j hj => by
    have := h.field (k := k) (j := 5 + j) hk (by omega)
    rwa [← Nat.add_assoc] at this
  exact ⟨⟨e 0 (by omega), e 1 (by omega), e 2 (by omega), e 3 (by omega), e 4 (by omega), e 5 (by omega), e 6 (by omega), e 7 (by omega)⟩,
    ⟨h.blk.frozen _, h.blk.frozen _, h.blk.frozen _, h.blk.frozen _, h.blk.frozen _, h.blk.frozen _, h.blk.frozen _, h.blk.frozen _⟩⟩
theorem Vl.quorum_some {l : Vl} (h : l.Ok) : ∃ q : Nat, l.quorum = (q : Int) ∧ 3 ≤ q ∧ q ≤ 9 ∧ (q : Int) ≤ l.n := by
  unfold Vl.quorum
  rcases h.n with e | e | e | e <;> rw [e]
  · exact ⟨3, by decide, by omega, by omega, by omega⟩
  · exact ⟨5, by decide, by omega, by omega, by omega⟩
  · exact ⟨7, by decide, by omega, by omega, by omega⟩
  · exact ⟨9, by decide, by omega, by omega, by omega⟩
theorem Vl.keep_ok {l : Vl} (h : l.Ok) (seq : Int) : (l.keep seq).Ok := by
  obtain ⟨q, hq, _, _, _⟩ := Vl.quorum_some h
  unfold Vl.keep
  split
  · exact h
  · rename_i hn
    refine ⟨h.n, h.view, h.low, fun k j i hv => ?_, h.marks, fun k => ?_⟩
    · unfold Vl.put at hv
      simp only at hv
      by_cases e : k = ix seq
      · rw [if_pos e] at hv
        exact h.votes (ix seq) j i hv
      · rw [if_neg e] at hv
        exact h.votes k j i hv
    · unfold Vl.put
      simp only
      by_cases e : k = ix seq
      · rw [if_pos e]
        refine .inr ⟨rfl, h.view.1, Int.le_refl _, ?_⟩
        show (((l.agree seq 0).take l.quorum.toNat).length : Int) = _
        rw [List.length_take]
        have : ¬ ((l.agree seq 0).length : Int) < l.quorum := fun hh => hn (.inl hh)
        show _ = l.quorum
        omega
      · rw [if_neg e]
        exact h.kept k
set_option maxHeartbeats 4000000 in
set_option maxRecDepth 100000 in
theorem keep_calls {w : World} {g gm : Nat} {gv : Nat → Nat → Option Nat} {kv : Nat → Value} {l : Vl} (h : AtV w g gm gv kv l) (seq : Int) (h0 : 0 ≤ seq) :
    Calls Try.prog 36 #[.pointer (some ⟨g, 0, none⟩), .int .i64 seq] w fun e w' => e = .returned (.tuple #[]) ∧ (∃ kv', AtV w' g gm gv kv' (l.keep seq)) ∧ Only (fun b => b = g) w w' := by
  have H := Lib.hid h
  obtain ⟨q, hq, hq3, hq9, hqn⟩ := Vl.quorum_some h.ok
  have HA := Lib.hid (fun w => at_calls w g seq h0)
  have HG := Lib.hid (agree_calls h seq h0 0 (by omega) 3 rfl)
  have HQ : Hid (∀ wx, AtV wx g gm gv kv l → Calls Try.prog 42 #[.pointer (some ⟨g, 0, none⟩)] wx fun e w' => e = .returned (.int .i64 (q : Int)) ∧ ∃ d, w' = wx.drewN d) := Lib.hid fun wx hx => by
    have := quorum_calls hx
    rw [hq] at this
    exact this
  have hk8 := ix_lt seq
  have hkeep : Hid (l.keep seq = if ((l.agree seq 0).length : Int) < (q : Int) ∨ ((l.slots (ix seq)).kept.kind ≠ 0 ∧ (l.slots (ix seq)).kept.view = l.view) then l else l.put (ix seq) { l.slots (ix seq) with kept := ⟨11, l.view, seq, (l.slots (ix seq)).digest, (l.slots (ix seq)).batch, (l.agree seq 0).take q⟩ }) := Lib.hid (by
    unfold Vl.keep Vl.slot
    rw [hq, Int.toNat_natCast])
  have hok := Lib.hid (Vl.keep_ok h.ok seq)
  have hal : (l.agree seq 0).length ≤ 13 := by
    have := agree_le (l.slot seq) 0 l.n.toNat
    have hn := h.ok.n
    unfold Vl.agree
    omega
  obtain ⟨k, hk⟩ : ∃ k, ix seq = k := ⟨_, rfl⟩
  rw [hk] at HA hk8 hkeep
  obtain ⟨L, hL⟩ : ∃ L, l.agree seq 0 = L := ⟨_, rfl⟩
  rw [hL] at HG hkeep hal
  have HL := Lib.hid hL
  obtain ⟨m, hm⟩ : ∃ m, L.length = m := ⟨_, rfl⟩
  have HM := Lib.hid hm
  rw [hm] at HG hkeep hal
  have hcells : Hid (∀ wr, AtV wr g gm gv kv l → wr.cell? ⟨g, 1, none⟩ = some (.int .i64 l.view) ∧ wr.cell? ⟨g, 3 + k * 13 + 5, none⟩ = some (.int .i64 (l.slots k).kept.kind) ∧ wr.cell? ⟨g, 3 + k * 13 + 6, none⟩ = some (.int .i64 (l.slots k).kept.view) ∧ wr.cell? ⟨g, 3 + k * 13 + 1, none⟩ = some (.string (l.slots k).digest) ∧ wr.cell? ⟨g, 3 + k * 13 + 2, none⟩ = some (.string (l.slots k).batch)) := Lib.hid fun wr hA =>
    ⟨hA.head.2.1, hA.field (k := k) (j := 5) (by omega) (by omega), hA.field (k := k) (j := 6) (by omega) (by omega), hA.field (k := k) (j := 1) (by omega) (by omega), hA.field (k := k) (j := 2) (by omega) (by omega)⟩
  clear hq hqn hk hL hm h
  have hend : Hid (l.keep seq = l → ∀ w', Below w.heap.size w w' → (∃ kv', AtV w' g gm gv kv' (l.keep seq)) ∧ Only (fun b => b = g) w w') := Lib.hid fun e w' hb => ⟨⟨kv, by rw [e]; exact H.out.below hb⟩, Only.of_below hb⟩
  go_enter Try.func36, Try.ntmps36
  go_upto_region 2 with (first
    | (go_at_call 35; (with_reducible refine (HA.out _).mono ?_); rintro e w1 ⟨rfl, rfl⟩)
    | (go_at_call 41; (with_reducible refine HG.out.mono ?_); rintro e w1 ⟨A, c, rfl, hmine, hb⟩; have HMi := Lib.hid hmine; have hB := Lib.hid hb; clear hmine hb))
  have hA1 := Lib.hid (H.out.below hB.out)
  obtain ⟨c1, c2, c3, c4, c5⟩ := hcells.out _ hA1.out
  obtain ⟨vw, hvw⟩ : ∃ x, Hid (l.view = x) := ⟨_, Lib.hid rfl⟩
  obtain ⟨kd, hkd⟩ : ∃ x, Hid ((l.slots k).kept.kind = x) := ⟨_, Lib.hid rfl⟩
  obtain ⟨kw, hkw⟩ : ∃ x, Hid ((l.slots k).kept.view = x) := ⟨_, Lib.hid rfl⟩
  rw [hvw.out, hkd.out, hkw.out] at hkeep
  rw [hvw.out] at c1
  rw [hkd.out] at c2
  rw [hkw.out] at c3
  by_cases a1 : m < q
  · have a2 : (m : Int) < (q : Int) := by omega
    have E : Hid (l.keep seq = l) := Lib.hid (by rw [hkeep.out, if_pos (.inl a2)])
    clear hkeep
    go_quiet ((go_at_call 42; (first | (with_reducible refine (HQ.out _ (hA1.out.drewN _)).mono ?_) | (with_reducible refine (HQ.out _ (hA1.out.drewN 1)).mono ?_)); rintro e w' ⟨rfl, ⟨nd, rfl⟩⟩; first | exact ⟨rfl, _, World.drewN_drewN _ _ _⟩ | exact ⟨rfl, _, rfl⟩))
    go_wp2
    refine bodyPost_ret (results_none rfl _ _ _) rfl ?_
    exact ⟨rfl, hend.out E.out _ (below_draw hB.out _)⟩
  · have a2 : ¬ (m : Int) < (q : Int) := by omega
    by_cases b1 : kd ≠ 0 ∧ kw = vw
    · obtain ⟨b2, rfl⟩ := b1
      have b3 : (kd != 0) = true := by simpa using b2
      have E : Hid (l.keep seq = l) := Lib.hid (by rw [hkeep.out, if_pos (.inr ⟨b2, rfl⟩)])
      clear hkeep
      go_quiet ((go_at_call 42; (first | (with_reducible refine (HQ.out _ (hA1.out.drewN _)).mono ?_) | (with_reducible refine (HQ.out _ (hA1.out.drewN 1)).mono ?_)); rintro e w' ⟨rfl, ⟨nd, rfl⟩⟩; first | exact ⟨rfl, _, World.drewN_drewN _ _ _⟩ | exact ⟨rfl, _, rfl⟩))
      go_wp2
      refine bodyPost_ret (results_none rfl _ _ _) rfl ?_
      exact ⟨rfl, hend.out E.out _ (below_draw hB.out _)⟩
    · have E : Hid (l.keep seq = l.put k { l.slots k with kept := ⟨11, l.view, seq, (l.slots k).digest, (l.slots k).batch, (l.agree seq 0).take q⟩ }) := Lib.hid (by
        rw [hkeep.out, if_neg (fun hh => hh.elim a2 b1), HL.out, hvw.out])
      have hq0 : (0 : Int) ≤ (q : Int) := by omega
      obtain ⟨b, o, hAe, hbw, hbl, hmc, hrow⟩ := mine_list HMi.out (by omega)
      subst hAe
      have HR := Lib.hid hrow
      have hqc : (q : Int) ≤ (c : Int) := by omega
      have hmcI : (m : Int) ≤ (c : Int) := by omega
      clear hrow hkeep hend
      by_cases b2 : kd = 0
      · have b3 : (kd != 0) = false := by simpa using b2
        clear b1
        go_quiet ((go_at_call 42; (first | (with_reducible refine (HQ.out _ (hA1.out.drewN _)).mono ?_) | (with_reducible refine (HQ.out _ (hA1.out.drewN 1)).mono ?_)); rintro e w' ⟨rfl, ⟨nd, rfl⟩⟩; first | exact ⟨rfl, _, World.drewN_drewN _ _ _⟩ | exact ⟨rfl, _, rfl⟩))
        go_upto_region 3 with (fail)
        generalize hwz : World.drewN _ _ = wz
        have hbz : Below w1.heap.size w1 wz := by rw [← hwz]; exact below_self _ _
        have hAz := Lib.hid (hA1.out.below hbz)
        have hSz : Hid (∀ wy, Below w1.heap.size w1 wy → wy.cell? ⟨g, 1, none⟩ = some (.int .i64 vw) ∧ wy.cell? ⟨g, 3 + k * 13 + 1, none⟩ = some (.string (l.slots k).digest) ∧ wy.cell? ⟨g, 3 + k * 13 + 2, none⟩ = some (.string (l.slots k).batch)) := Lib.hid fun wy hy => by
          obtain ⟨d1, _, _, d4, d5⟩ := hcells.out _ (hA1.out.below hy)
          rw [hvw.out] at d1
          exact ⟨d1, d4, d5⟩
        obtain ⟨c1, c4, c5⟩ := hSz.out _ hbz
        have hth : Hid (∀ wy, Below w1.heap.size w1 wy → wy.there g (3 + k * 13 + 5) 8) := Lib.hid fun wy hy j hj => by
          have e := (hA1.out.below hy).field (k := k) (j := 5 + j) (by omega) (by omega)
          rw [← Nat.add_assoc] at e
          exact ⟨by rw [e]; rfl, (hA1.out.below hy).blk.frozen _⟩
        have hend2 : Hid (∀ wy, Below w1.heap.size w1 wy → (∃ kv', AtV (wy.setCells g (3 + k * 13 + 5) [.int .i64 11, .int .i64 vw, .int .i64 seq, .int .i64 0, .int .i64 0, .string (l.slots k).digest, .string (l.slots k).batch, .slice (some ⟨b, o, none⟩) q c]) g gm gv kv' (l.keep seq)) ∧ Only (fun b => b = g) w (wy.setCells g (3 + k * 13 + 5) [.int .i64 11, .int .i64 vw, .int .i64 seq, .int .i64 0, .int .i64 0, .string (l.slots k).digest, .string (l.slots k).batch, .slice (some ⟨b, o, none⟩) q c])) := Lib.hid fun wy hy => by
          have hlen : ((l.agree seq 0).take q).length = q := by rw [List.length_take, HL.out, HM.out]; omega
          refine ⟨⟨fun i => if i = k then .slice (some ⟨b, o, none⟩) q c else kv i, ?_⟩, ?_⟩
          · rw [E.out]
            have hv1 : ∀ j, j < ([.int .i64 11, .int .i64 vw, .int .i64 seq, .int .i64 0, .int .i64 0, .string (l.slots k).digest, .string (l.slots k).batch, .slice (some ⟨b, o, none⟩) q c] : List Value).length → ([.int .i64 11, .int .i64 vw, .int .i64 seq, .int .i64 0, .int .i64 0, .string (l.slots k).digest, .string (l.slots k).batch, .slice (some ⟨b, o, none⟩) q c] : List Value)[j]? = some (slotCell { l.slots k with kept := ⟨11, l.view, seq, (l.slots k).digest, (l.slots k).batch, (l.agree seq 0).take q⟩ } (gv k) (.slice (some ⟨b, o, none⟩) q c) (5 + j)) := by
              intro j hj
              simp only [List.length_cons, List.length_nil] at hj
              rw [← hvw.out]
              rcases (show j = 0 ∨ j = 1 ∨ j = 2 ∨ j = 3 ∨ j = 4 ∨ j = 5 ∨ j = 6 ∨ j = 7 by omega) with rfl | rfl | rfl | rfl | rfl | rfl | rfl | rfl <;> rfl
            have hv2 : ∀ j, j < 13 → (j < 5 ∨ 5 + 8 ≤ j) → slotCell { l.slots k with kept := ⟨11, l.view, seq, (l.slots k).digest, (l.slots k).batch, (l.agree seq 0).take q⟩ } (gv k) (.slice (some ⟨b, o, none⟩) q c) j = slotCell (l.slots k) (gv k) (kv k) j := by
              intro j hj hj2
              rcases (show j = 0 ∨ j = 1 ∨ j = 2 ∨ j = 3 ∨ j = 4 by omega) with rfl | rfl | rfl | rfl | rfl <;> rfl
            have hput := (hA1.out.below hy).slotPut (k := k) (o := 5) (by omega) [.int .i64 11, .int .i64 vw, .int .i64 seq, .int .i64 0, .int .i64 0, .string (l.slots k).digest, .string (l.slots k).batch, .slice (some ⟨b, o, none⟩) q c] (by simp) { l.slots k with kept := ⟨11, l.view, seq, (l.slots k).digest, (l.slots k).batch, (l.agree seq 0).take q⟩ } (gv k) (.slice (some ⟨b, o, none⟩) q c) hv1 hv2 (fun j _ => .inl ⟨rfl, rfl⟩) (.inr ⟨b, o, c, by rw [hlen], by have := H.out.blk.lt; omega, .inr ⟨b, o, rfl, Nat.lt_of_lt_of_le hbl hy.size, fun j hj => by
                rw [hlen] at hj
                show wy.cell? ⟨b, o + j, none⟩ = some ((scells ((l.agree seq 0).take q)).getD j (.bool false))
                rw [scells_take _ _ _ hj, HL.out, ← HR.out j (by omega)]
                exact below_cell hy hbl⟩⟩) (by rw [← E.out]; exact hok.out)
            rw [show (fun i => if i = k then gv k else gv i) = gv from by funext i; split <;> simp_all] at hput
            exact hput
          · exact (Only.of_below (S := fun b => b = g) (below_next hB.out hy)).trans (only_setCells _ _ _ _) fun b hb => .inl hb
        have HS : Hid ((Try.prog.info? 46).map (·.size) = some 8) := Lib.hid (by kernel_rfl)
        have HBZ := Lib.hid hbz
        clear hwz hbz c2 c3 hcells hok HM HL HR hbw hbl hA1
        refine wp_region_quiet_tail 21 (by kernel_rfl) (by kernel_rfl) ?_
        simp only [List.take_succ_cons, List.take_zero, List.drop_succ_cons, List.drop_zero]
        repeat (go_big_quiet_step ((go_at_call 42; (with_reducible refine (HQ.out _ (hAz.out.drewN _)).mono ?_); rintro e w' ⟨rfl, ⟨nd, rfl⟩⟩; exact ⟨rfl, _, World.drewN_drewN _ _ _⟩)))
        refine wpQuiet_nil ?_
        rintro w9 ⟨nq, hw9⟩
        have hb9 := Lib.hid (show Below w1.heap.size w1 w9 from by rw [hw9]; exact below_draw HBZ.out nq)
        clear hw9 hSz c1 c4 c5
        refine wpList_store_mid rfl 46 (.tmp 59) (.tmp 57) rfl g (3 + k * 13 + 5) #[.int .i64 11, .int .i64 vw, .int .i64 seq, .int .i64 0, .int .i64 0, .string (l.slots k).digest, .string (l.slots k).batch, .slice (some ⟨b, o, none⟩) q c] rfl rfl (hth.out _ hb9.out) HS.out (by simp [Value.oneCell']) ?_
        go_wp2
        go_end0
        exact ⟨rfl, hend2.out _ hb9.out⟩
      · have b3 : (kd != 0) = true := by simpa using b2
        have b4 : ¬ kw = vw := fun e => b1 ⟨b2, e⟩
        have b5 : (kw == vw) = false := by simpa using b4
        clear b1
        go_quiet ((go_at_call 42; (first | (with_reducible refine (HQ.out _ (hA1.out.drewN _)).mono ?_) | (with_reducible refine (HQ.out _ (hA1.out.drewN 1)).mono ?_)); rintro e w' ⟨rfl, ⟨nd, rfl⟩⟩; first | exact ⟨rfl, _, World.drewN_drewN _ _ _⟩ | exact ⟨rfl, _, rfl⟩))
        go_upto_region 3 with (fail)
        generalize hwz : World.drewN _ _ = wz
        have hbz : Below w1.heap.size w1 wz := by rw [← hwz]; exact below_self _ _
        have hAz := Lib.hid (hA1.out.below hbz)
        have hSz : Hid (∀ wy, Below w1.heap.size w1 wy → wy.cell? ⟨g, 1, none⟩ = some (.int .i64 vw) ∧ wy.cell? ⟨g, 3 + k * 13 + 1, none⟩ = some (.string (l.slots k).digest) ∧ wy.cell? ⟨g, 3 + k * 13 + 2, none⟩ = some (.string (l.slots k).batch)) := Lib.hid fun wy hy => by
          obtain ⟨d1, _, _, d4, d5⟩ := hcells.out _ (hA1.out.below hy)
          rw [hvw.out] at d1
          exact ⟨d1, d4, d5⟩
        obtain ⟨c1, c4, c5⟩ := hSz.out _ hbz
        have hth : Hid (∀ wy, Below w1.heap.size w1 wy → wy.there g (3 + k * 13 + 5) 8) := Lib.hid fun wy hy j hj => by
          have e := (hA1.out.below hy).field (k := k) (j := 5 + j) (by omega) (by omega)
          rw [← Nat.add_assoc] at e
          exact ⟨by rw [e]; rfl, (hA1.out.below hy).blk.frozen _⟩
        have hend2 : Hid (∀ wy, Below w1.heap.size w1 wy → (∃ kv', AtV (wy.setCells g (3 + k * 13 + 5) [.int .i64 11, .int .i64 vw, .int .i64 seq, .int .i64 0, .int .i64 0, .string (l.slots k).digest, .string (l.slots k).batch, .slice (some ⟨b, o, none⟩) q c]) g gm gv kv' (l.keep seq)) ∧ Only (fun b => b = g) w (wy.setCells g (3 + k * 13 + 5) [.int .i64 11, .int .i64 vw, .int .i64 seq, .int .i64 0, .int .i64 0, .string (l.slots k).digest, .string (l.slots k).batch, .slice (some ⟨b, o, none⟩) q c])) := Lib.hid fun wy hy => by
          have hlen : ((l.agree seq 0).take q).length = q := by rw [List.length_take, HL.out, HM.out]; omega
          refine ⟨⟨fun i => if i = k then .slice (some ⟨b, o, none⟩) q c else kv i, ?_⟩, ?_⟩
          · rw [E.out]
            have hv1 : ∀ j, j < ([.int .i64 11, .int .i64 vw, .int .i64 seq, .int .i64 0, .int .i64 0, .string (l.slots k).digest, .string (l.slots k).batch, .slice (some ⟨b, o, none⟩) q c] : List Value).length → ([.int .i64 11, .int .i64 vw, .int .i64 seq, .int .i64 0, .int .i64 0, .string (l.slots k).digest, .string (l.slots k).batch, .slice (some ⟨b, o, none⟩) q c] : List Value)[j]? = some (slotCell { l.slots k with kept := ⟨11, l.view, seq, (l.slots k).digest, (l.slots k).batch, (l.agree seq 0).take q⟩ } (gv k) (.slice (some ⟨b, o, none⟩) q c) (5 + j)) := by
              intro j hj
              simp only [List.length_cons, List.length_nil] at hj
              rw [← hvw.out]
              rcases (show j = 0 ∨ j = 1 ∨ j = 2 ∨ j = 3 ∨ j = 4 ∨ j = 5 ∨ j = 6 ∨ j = 7 by omega) with rfl | rfl | rfl | rfl | rfl | rfl | rfl | rfl <;> rfl
            have hv2 : ∀ j, j < 13 → (j < 5 ∨ 5 + 8 ≤ j) → slotCell { l.slots k with kept := ⟨11, l.view, seq, (l.slots k).digest, (l.slots k).batch, (l.agree seq 0).take q⟩ } (gv k) (.slice (some ⟨b, o, none⟩) q c) j = slotCell (l.slots k) (gv k) (kv k) j := by
              intro j hj hj2
              rcases (show j = 0 ∨ j = 1 ∨ j = 2 ∨ j = 3 ∨ j = 4 by omega) with rfl | rfl | rfl | rfl | rfl <;> rfl
            have hput := (hA1.out.below hy).slotPut (k := k) (o := 5) (by omega) [.int .i64 11, .int .i64 vw, .int .i64 seq, .int .i64 0, .int .i64 0, .string (l.slots k).digest, .string (l.slots k).batch, .slice (some ⟨b, o, none⟩) q c] (by simp) { l.slots k with kept := ⟨11, l.view, seq, (l.slots k).digest, (l.slots k).batch, (l.agree seq 0).take q⟩ } (gv k) (.slice (some ⟨b, o, none⟩) q c) hv1 hv2 (fun j _ => .inl ⟨rfl, rfl⟩) (.inr ⟨b, o, c, by rw [hlen], by have := H.out.blk.lt; omega, .inr ⟨b, o, rfl, Nat.lt_of_lt_of_le hbl hy.size, fun j hj => by
                rw [hlen] at hj
                show wy.cell? ⟨b, o + j, none⟩ = some ((scells ((l.agree seq 0).take q)).getD j (.bool false))
                rw [scells_take _ _ _ hj, HL.out, ← HR.out j (by omega)]
                exact below_cell hy hbl⟩⟩) (by rw [← E.out]; exact hok.out)
            rw [show (fun i => if i = k then gv k else gv i) = gv from by funext i; split <;> simp_all] at hput
            exact hput
          · exact (Only.of_below (S := fun b => b = g) (below_next hB.out hy)).trans (only_setCells _ _ _ _) fun b hb => .inl hb
        have HS : Hid ((Try.prog.info? 46).map (·.size) = some 8) := Lib.hid (by kernel_rfl)
        have HBZ := Lib.hid hbz
        clear hwz hbz c2 c3 hcells hok HM HL HR hbw hbl hA1
        refine wp_region_quiet_tail 21 (by kernel_rfl) (by kernel_rfl) ?_
        simp only [List.take_succ_cons, List.take_zero, List.drop_succ_cons, List.drop_zero]
        repeat (go_big_quiet_step ((go_at_call 42; (with_reducible refine (HQ.out _ (hAz.out.drewN _)).mono ?_); rintro e w' ⟨rfl, ⟨nd, rfl⟩⟩; exact ⟨rfl, _, World.drewN_drewN _ _ _⟩)))
        refine wpQuiet_nil ?_
        rintro w9 ⟨nq, hw9⟩
        have hb9 := Lib.hid (show Below w1.heap.size w1 w9 from by rw [hw9]; exact below_draw HBZ.out nq)
        clear hw9 hSz c1 c4 c5
        refine wpList_store_mid rfl 46 (.tmp 59) (.tmp 57) rfl g (3 + k * 13 + 5) #[.int .i64 11, .int .i64 vw, .int .i64 seq, .int .i64 0, .int .i64 0, .string (l.slots k).digest, .string (l.slots k).batch, .slice (some ⟨b, o, none⟩) q c] rfl rfl (hth.out _ hb9.out) HS.out (by simp [Value.oneCell']) ?_
        go_wp2
        go_end0
        exact ⟨rfl, hend2.out _ hb9.out⟩
end Go.Proofs.Ytedndjbhgbdpoaa
