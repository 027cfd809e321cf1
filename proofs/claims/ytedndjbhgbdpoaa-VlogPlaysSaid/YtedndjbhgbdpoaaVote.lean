/- The contract of Vote: votes that are looked at. -/
import Derived.Test.YtedndjbhgbdpoaaVoteR
import Derived.WalkSpells
namespace Go.Proofs.Ytedndjbhgbdpoaa
open Go.RowKit
/-- What the maps of a log are behind a vote. -/
def Wider (w : World) (gv gv' : Nat → Nat → Option Nat) : Prop := ∀ k j b, k < 8 → j < 2 → gv' k j = some b → gv k j = some b ∨ w.heap.size ≤ b
def feetV (g : Nat) (gv : Nat → Nat → Option Nat) : Nat → Prop := fun b => b = g ∨ ∃ k j, k < 8 ∧ j < 2 ∧ gv k j = some b
def VoteTo (w w' : World) (g gm : Nat) (gv : Nat → Nat → Option Nat) (l' : Vl) : Prop := ∃ gv' kv', AtV w' g gm gv' kv' l' ∧ Wider w gv gv'
theorem step_kind (l : Vl) (m : Sg) (kd seq : Int) (d : ByteArray) (j : Nat) (hkd : kd = 3 + (j : Int)) (hj : j < 2) (h0 : 0 ≤ m.frm) (hn : m.frm < l.n) (hin : l.within seq) :
    l.vote m kd l.view seq d = match (l.slots (ix seq)).votes j m.frm with | some old => if old.d = d then (l, 101) else (l, 102) | none => ((l.put (ix seq) ((l.slots (ix seq)).vote j m.frm ⟨m, d⟩)).keep seq, 0) := by
  unfold Vl.vote Vl.slot
  rw [if_neg (by omega), if_neg (fun hh => hh.elim (fun h1 => h1 rfl) (fun h2 => h2 hin)), show (kd - 3).toNat = j from by omega]
  cases (l.slots (ix seq)).votes j m.frm <;> rfl
theorem AtV.mapAt {w : World} {g gm : Nat} {gv : Nat → Nat → Option Nat} {kv : Nat → Value} {l : Vl} (h : AtV w g gm gv kv l) {k j b : Nat} (hk : k < 8) (hj : j < 2) (hb : gv k j = some b) : MapAt Try.prog 3 w b (votesOf (l.slots k) j) := by
  have := h.maps k j hk hj
  rw [hb] at this
  exact this
set_option maxHeartbeats 8000000 in
set_option maxRecDepth 100000 in
theorem vote_in3 {w : World} {g gm : Nat} {gv : Nat → Nat → Option Nat} {kv : Nat → Value} {l : Vl} (h : AtV w g gm gv kv l) (m : Sg) (seq c1 c2 : Int) (d tx : ByteArray) (ls : Value) (h0 : 0 ≤ m.frm) (hn : m.frm < l.n) (hin : l.within seq) :
    Calls Try.prog 37 #[.pointer (some ⟨g, 0, none⟩), .agg #[.int .i64 m.frm, .string m.body, .string m.sig], .agg #[.int .i64 3, .int .i64 l.view, .int .i64 seq, .int .i64 c1, .int .i64 c2, .string d, .string tx, ls]] w fun e w' => e = .returned (.int .i64 (l.vote m 3 l.view seq d).2) ∧ VoteTo w w' g gm gv (l.vote m 3 l.view seq d).1 ∧ Only (feetV g gv) w w' := by
  have HW := Lib.hid (fun wx (hx : AtV wx g gm gv kv l) => within_calls hx seq)
  rw [decide_eq_true hin] at HW
  obtain ⟨s0, s1⟩ := Vl.within_ix h.ok hin
  have HA := Lib.hid (fun w => at_calls w g seq s0)
  have hk8 := ix_lt seq
  have HV := Lib.hid (step_kind l m 3 seq d 0 (by decide) (by omega) h0 hn hin)
  have HN0 := Lib.hid (show 0 ≤ m.frm ∧ m.frm < l.n from ⟨h0, hn⟩)
  have Hn13 : Hid (l.n ≤ 13) := Lib.hid (by have := h.ok.n; omega)
  have Hw0 : Hid (AtV w g gm gv kv l) := Lib.hid h
  obtain ⟨fr, bo, si⟩ := m
  obtain ⟨a1, a2, a3, a4⟩ := boxed h #[.int .i64 fr, .string bo, .string si] #[.int .i64 3, .int .i64 l.view, .int .i64 seq, .int .i64 c1, .int .i64 c2, .string d, .string tx, ls] 48 46
  have hA := Lib.hid a1
  have hM := Lib.hid a2
  have hB := Lib.hid a3
  have hBl := Lib.hid a4
  clear a1 a2 a3 a4
  obtain ⟨n, hnn⟩ : ∃ n, Hid (l.n = n) := ⟨_, Lib.hid rfl⟩
  obtain ⟨vw, hvw⟩ : ∃ n, Hid (l.view = n) := ⟨_, Lib.hid rfl⟩
  have y1 : decide (fr < 0) = false := by simpa using h0
  have y2 : decide (n ≤ fr) = false := by rw [← hnn.out]; simpa using hn
  have hfr : (Lit.int .i64 fr).wf = true := wf64 (by have : (0 : Int) ≤ fr := h0; have : fr < l.n := hn; have := Hn13.out; omega)
  obtain ⟨k, hk⟩ : ∃ k, ix seq = k := ⟨_, rfl⟩
  rw [hk] at HA hk8 HV
  clear hn hin h hk h0
  have qT : ∀ (w : World) (r : Option Nat), (binOp .eql 74 (.map r) (.map none)).run Try.prog w = .ok (.bool r.isNone) w := fun w r => run_eql_map_nil w _ _ _ r Try.underlying74
  go_enter Try.func37, Try.ntmps37
  go_upto_region 1 with (fail)
  have hgl : g < w.heap.size := Hw0.out.blk.lt
  generalize w.heap.size = gb at hM hB hgl ⊢
  generalize World.alloc (World.alloc w _) _ = w2 at hA hM hB hBl ⊢
  have m0 : w2.cell? ⟨gb, 0, none⟩ = some (.int .i64 fr) := hM.out.cell 0
  have b0 : w2.cell? ⟨gb + 1, 0, none⟩ = some (.int .i64 3) := hB.out.cell 0
  have b1 : w2.cell? ⟨gb + 1, 1, none⟩ = some (.int .i64 vw) := by rw [← hvw.out]; exact hB.out.cell 1
  have b2 : w2.cell? ⟨gb + 1, 2, none⟩ = some (.int .i64 seq) := hB.out.cell 2
  obtain ⟨n0, n1, n2, n3⟩ := hA.out.head
  rw [hnn.out] at n0
  rw [hvw.out] at n1
  clear n2 n3
  go_quiet (fail)
  go_upto_region 3 with (fail)
  go_quiet ((go_at_call 34; (with_reducible refine (HW.out _ (hA.out.drewN _)).mono ?_); rintro e w' ⟨rfl, rfl⟩; exact ⟨rfl, _, rfl⟩))
  go_upto_region 5 with (fail)
  go_quiet ((go_at_call 35; (with_reducible refine (HA.out _).mono ?_); rintro e w' ⟨rfl, rfl⟩; exact ⟨rfl, _, rfl⟩))
  go_upto_region 6 with (fail)
  go_quiet (fail)
  go_upto_region 7 with (fail)
  generalize hw5 : World.drewN _ _ = w5
  have hb5 : Below w2.heap.size w2 w5 := by rw [← hw5]; repeat (first | exact Below.refl _ _ | refine below_draw ?_ _)
  have A5 := Lib.hid (hA.out.below hb5)
  have hbl5 := Lib.hid (below_next hBl.out hb5)
  have B5 := Lib.hid (hB.out.below hb5 hB.out.lt)
  have M5 := Lib.hid (hM.out.below hb5 hM.out.lt)
  clear hw5 hb5 m0 b0 b1 b2 n0 n1 hA hB hM hBl y1 y2
  obtain ⟨ov, hov⟩ : ∃ ov, Hid ((l.slots k).votes 0 fr = ov) := ⟨_, Lib.hid rfl⟩
  have hlkf : Hid (∀ wx, AtV wx g gm gv kv l → (Instr.lookup 74 (.map (gv k 0)) (.int .i64 fr) true).run Try.prog wx = .ok (.tuple #[(ov.getD Vt.zero).val, .bool ov.isSome]) wx) := Lib.hid fun wx hx => by
    have := hx.look (k := k) (j := 0) hk8 (by omega) fr hfr
    rw [hov.out] at this
    exact this
  obtain ⟨v, hvv⟩ : ∃ v, Hid (ov.getD Vt.zero = v) := ⟨_, Lib.hid rfl⟩
  obtain ⟨ok, hok⟩ : ∃ ok, Hid (ov.isSome = ok) := ⟨_, Lib.hid rfl⟩
  rw [hvv.out, hok.out] at hlkf
  obtain ⟨⟨fo, bd, sg⟩, dd⟩ := v
  go_cut [9, 10] from 64 (fun s9 s10 wc => s9 = .pointer (some ⟨w5.heap.size, 0, none⟩) ∧ s10 = .bool ok ∧ wc = (w5.alloc (.cells #[.int .i64 fo, .string bd, .string sg, .string dd] 91)).drew)
  case first =>
    have m0 : w5.cell? ⟨gb, 0, none⟩ = some (.int .i64 fr) := M5.out.cell 0
    have v0 : w5.cell? ⟨g, 3 + k * 13 + 3, none⟩ = some (.map (gv k 0)) := A5.out.field (k := k) (j := 3 + 0) hk8 (by omega)
    have hlk2 : (Instr.lookup 74 (.map (gv k 0)) (.int .i64 fr) true).run Try.prog w5.drew = .ok (.tuple #[.agg #[.int .i64 fo, .string bd, .string sg, .string dd], .bool ok]) w5.drew := hlkf.out _ (A5.out.drewN 1)
    have Az := Lib.hid (A5.out.below ((Below.refl w5.heap.size w5).alloc (Nat.le_refl _) (.cells #[.int .i64 0, .string ⟨#[]⟩, .string ⟨#[]⟩, .string ⟨#[]⟩] 91)))
    have v0y : (w5.alloc (.cells #[.int .i64 0, .string ⟨#[]⟩, .string ⟨#[]⟩, .string ⟨#[]⟩] 91)).cell? ⟨g, 3 + k * 13 + 3, none⟩ = some (.map (gv k 0)) := Az.out.field (k := k) (j := 3 + 0) hk8 (by omega)
    have m0z : (w5.alloc (.cells #[.int .i64 0, .string ⟨#[]⟩, .string ⟨#[]⟩, .string ⟨#[]⟩] 91)).cell? ⟨gb, 0, none⟩ = some (.int .i64 fr) := (M5.out.alloc _).cell 0
    have hlk4 : (Instr.lookup 74 (.map (gv k 0)) (.int .i64 fr) true).run Try.prog (w5.alloc (.cells #[.int .i64 0, .string ⟨#[]⟩, .string ⟨#[]⟩, .string ⟨#[]⟩] 91)).drew = .ok (.tuple #[.agg #[.int .i64 fo, .string bd, .string sg, .string dd], .bool ok]) (w5.alloc (.cells #[.int .i64 0, .string ⟨#[]⟩, .string ⟨#[]⟩, .string ⟨#[]⟩] 91)).drew := hlkf.out _ (Az.out.drewN 1)
    go_region
    all_goals (go_wp2_with fail; go_meet; exact ⟨rfl, rfl, rfl⟩)
  case rest =>
    obtain ⟨rfl, rfl, hwc⟩ := hcut
    obtain ⟨w6, hw6⟩ : ∃ w6, w6 = wc := ⟨_, rfl⟩
    subst hw6
    have hb6 : Below w5.heap.size w5 w6 := by rw [hwc]; exact ((Below.refl _ _).alloc (Nat.le_refl _) _).drew
    have D6 : Hid (Blk w6 w5.heap.size 91 #[.int .i64 fo, .string bd, .string sg, .string dd]) := Lib.hid (by rw [hwc]; exact (Blk.new _ _ _).drew)
    have A6 := Lib.hid (A5.out.below hb6)
    have M6 := Lib.hid (M5.out.below hb6 M5.out.lt)
    have B6 := Lib.hid (B5.out.below hb6 B5.out.lt)
    have hbl6 := Lib.hid (below_next hbl5.out hb6)
    generalize w5.heap.size = gd at D6 ⊢
    clear hwc hb6 M5 B5 A5 hbl5 HW HA hlkf
    have hend : Hid (∀ w' c, Below w.heap.size w w' → l.vote ⟨fr, bo, si⟩ 3 l.view seq d = (l, c) → VoteTo w w' g gm gv (l.vote ⟨fr, bo, si⟩ 3 l.view seq d).1 ∧ Only (feetV g gv) w w') := Lib.hid fun w' c hb e => ⟨⟨gv, kv, by rw [e]; exact Hw0.out.below hb, fun _ _ _ _ _ h => .inl h⟩, Only.of_below hb⟩
    cases ok with
    | true =>
      have hs : ov = some ⟨⟨fo, bd, sg⟩, dd⟩ := by
        have h1 := hvv.out
        have h2 := hok.out
        cases ov with
        | none => cases h2
        | some x => exact congrArg some h1
      have E : Hid (l.vote ⟨fr, bo, si⟩ 3 l.view seq d = if dd = d then (l, 101) else (l, 102)) := Lib.hid (HV.out.trans (by rw [show (l.slots k).votes 0 fr = some ⟨⟨fo, bd, sg⟩, dd⟩ from hov.out.trans hs]))
      have d3 : w6.cell? ⟨gd, 1 + 2, none⟩ = some (.string dd) := D6.out.cell 3
      have d3' : w6.cell? ⟨gd, 3, none⟩ = some (.string dd) := D6.out.cell 3
      have b5 : w6.cell? ⟨gb + 1, 5, none⟩ = some (.string d) := B6.out.cell 5
      clear hs hov hvv hok HV
      by_cases e : dd = d
      · subst e
        have E2 : Hid (l.vote ⟨fr, bo, si⟩ 3 l.view seq dd = (l, 101)) := Lib.hid (by rw [E.out, if_pos rfl])
        rw [E2.out] at hend
        go_wp2
        go_ret
        rw [E2.out]
        exact ⟨rfl, hend.out _ 101 hbl6.out rfl⟩
      · have E2 : Hid (l.vote ⟨fr, bo, si⟩ 3 l.view seq d = (l, 102)) := Lib.hid (by rw [E.out, if_neg e])
        rw [E2.out] at hend
        have u1 := text_ne e
        have u2 := text_apart e
        clear e
        go_wp2
        go_ret
        rw [E2.out]
        exact ⟨rfl, hend.out _ 102 hbl6.out rfl⟩
    | false =>
      have hs : ov = none := by
        have h2 := hok.out
        cases ov with
        | none => rfl
        | some x => cases h2
      have E : Hid (l.vote ⟨fr, bo, si⟩ 3 l.view seq d = ((l.put k ((l.slots k).vote 0 fr ⟨⟨fr, bo, si⟩, d⟩)).keep seq, 0)) := Lib.hid (HV.out.trans (by rw [show (l.slots k).votes 0 fr = none from hov.out.trans hs]))
      clear hs hov hvv hok HV hend D6
      have hwg : Hid (w.heap.size ≤ w6.heap.size) := Lib.hid hbl6.out.size
      have v0 : w6.cell? ⟨g, 3 + k * 13 + 3, none⟩ = some (.map (gv k 0)) := A6.out.field (k := k) (j := 3 + 0) hk8 (by omega)
      have f0 := A6.out.blk.frozen (3 + k * 13 + 3)
      have hmm := @run_makeMap Try.prog
      obtain ⟨mo, hmo⟩ : ∃ mo, Hid (gv k 0 = mo) := ⟨_, Lib.hid rfl⟩
      rw [hmo.out] at v0
      go_upto_if 82 with (fail)
      go_cut [10] from 79 (fun s10 w7 => s10 = .bool false ∧ ∃ gv' b, Hid (AtV w7 g gm gv' kv l) ∧ Hid (gv' k 0 = some b) ∧ Hid (Wider w gv gv') ∧ Hid (Only (fun x => x = g) w6 w7) ∧ Hid (Blk w7 gb 48 #[.int .i64 fr, .string bo, .string si]) ∧ Hid (Blk w7 (gb + 1) 46 #[.int .i64 3, .int .i64 l.view, .int .i64 seq, .int .i64 c1, .int .i64 c2, .string d, .string tx, ls]))
      case first =>
        cases mo with
        | none =>
          have A6a := Lib.hid (A6.out.below ((Below.refl _ _).alloc (Nat.le_refl _) (.map #[] 0)))
          have v0a : (w6.alloc (.map #[] 0)).cell? ⟨g, 3 + k * 13 + 3, none⟩ = some (.map none) := by
            have := A6a.out.field (k := k) (j := 3 + 0) hk8 (by omega)
            rw [show slotCell (l.slots k) (gv k) (kv k) (3 + 0) = .map (gv k 0) from rfl, hmo.out] at this
            exact this
          have f0a : (w6.alloc (.map #[] 0)).frozen? ⟨g, 3 + k * 13 + 3, none⟩ = false := A6a.out.blk.frozen _
          go_wp2
          go_meet
          refine ⟨rfl, _, w6.heap.size, Lib.hid (A6.out.newMap hk8 (by omega) hmo.out), Lib.hid (by simp), Lib.hid ?_, Lib.hid ?_, Lib.hid ((M6.out.alloc _).far (by omega) _), Lib.hid ((B6.out.alloc _).far (by omega) _)⟩
          · intro k' j' b' hk' hj' hb'
            by_cases e1 : k' = k
            · subst e1
              simp only [if_pos] at hb'
              by_cases e2 : j' = 0
              · rw [if_pos e2] at hb'
                cases hb'
                exact .inr hwg.out
              · rw [if_neg e2] at hb'
                exact .inl hb'
            · simp only [if_neg e1] at hb'
              exact .inl hb'
          · exact (Only.of_below (S := fun x => x = g) ((Below.refl _ _).alloc (Nat.le_refl _) _)).setCell (.inl rfl) _
        | some b =>
          go_wp2
          go_meet
          exact ⟨rfl, gv, b, A6, hmo, Lib.hid fun _ _ _ _ _ h => .inl h, Lib.hid (Only.refl _ _), M6, B6⟩
      case rest =>
        obtain ⟨rfl, gv', b, A7, hbg, hWd, hO7, M7, B7⟩ := hcut
        have v7 : wc.cell? ⟨g, 3 + k * 13 + 3, none⟩ = some (.map (some b)) := by
          have := A7.out.field (k := k) (j := 3 + 0) hk8 (by omega)
          rw [← hbg.out]
          exact this
        have m0 : wc.cell? ⟨gb, 0, none⟩ = some (.int .i64 fr) := M7.out.cell 0
        have m1 : wc.cell? ⟨gb, 1, none⟩ = some (.string bo) := M7.out.cell 1
        have m2 : wc.cell? ⟨gb, 2, none⟩ = some (.string si) := M7.out.cell 2
        have b5 : wc.cell? ⟨gb + 1, 5, none⟩ = some (.string d) := B7.out.cell 5
        clear v0 f0 hmm A6 M6 B6
        go_upto_region 14 with (fail)
        go_still_tail 9, (by kernel_rfl)
        change wpList _ _ _ _ _ wc.drew
        have A7d := Lib.hid (A7.out.drewN 1)
        have hi13 : 0 ≤ fr ∧ fr < 13 := by have := HN0.out; have := Hn13.out; simp only at *; omega
        refine wpList_put rfl (.tmp 88) (.tmp 90) (.tmp 94) 74 rfl Try.underlying3 Try.underlying74 b (votesOf (l.slots k) 0) fr (.agg #[.int .i64 fr, .string bo, .string si, .string d]) rfl (A7d.out.mapAt hk8 (by omega) hbg.out) hi13 rfl rfl ?_
        intro w8 hm8 hg8
        have hbne : gb + 1 ≠ b := fun e => by
          obtain ⟨es, cl, h1⟩ := (A7.out.mapAt hk8 (by omega) hbg.out).cells
          have h2 := B7.out
          unfold Blk at h2
          rw [e, h1] at h2; cases h2
        have A8 := Lib.hid (A7d.out.voted hk8 (by omega) hbg.out fr ⟨⟨fr, bo, si⟩, d⟩ HN0.out hm8 hg8)
        have B8 : Blk w8 (gb + 1) 46 #[.int .i64 3, .int .i64 l.view, .int .i64 seq, .int .i64 c1, .int .i64 c2, .string d, .string tx, ls] := by
          have := hg8.block (gb + 1) B7.out.lt (fun e => hbne (Option.some.inj e))
          unfold Blk
          rw [this]; exact B7.out
        have b2 : w8.cell? ⟨gb + 1, 2, none⟩ = some (.int .i64 seq) := B8.cell 2
        have HK := Lib.hid (keep_calls A8.out seq s0)
        have hO8 : Hid (Only (fun x => x = b) wc.drew w8) := Lib.hid ((Only.of_grown hg8).mono fun x hx => Option.some.inj hx)
        clear B8 hbne hm8 hg8 v7 m0 m1 m2 b5 A7d hi13
        go_wp2_with (first
          | (go_at_call 36; (refine HK.out.mono ?_); rintro e w9 ⟨rfl, hk1, hk2⟩; have HK1 := Lib.hid hk1; have HK2 := Lib.hid hk2; clear hk1 hk2))
        go_ret
        rw [E.out]
        obtain ⟨kv', hk1⟩ := HK1.out
        refine ⟨rfl, ⟨gv', kv', hk1, hWd.out⟩, ?_⟩
        have o1 : Only (feetV g gv) w w6 := Only.of_below hbl6.out
        have o2 : Only (feetV g gv) w wc := o1.trans hO7.out fun x hx => .inl (.inl hx)
        have o3 : Only (feetV g gv) w wc.drew := o2.drewN 1
        have o4 : Only (feetV g gv) w w8 := o3.trans hO8.out fun x hx => by
          have hx' : x = b := hx
          subst hx'
          rcases hWd.out k 0 _ hk8 (by omega) hbg.out with h1 | h1
          · exact .inl (.inr ⟨k, 0, hk8, by omega, h1⟩)
          · exact .inr h1
        exact o4.trans HK2.out fun x hx => .inl (.inl hx)
set_option maxHeartbeats 8000000 in
set_option maxRecDepth 100000 in
theorem vote_in4 {w : World} {g gm : Nat} {gv : Nat → Nat → Option Nat} {kv : Nat → Value} {l : Vl} (h : AtV w g gm gv kv l) (m : Sg) (seq c1 c2 : Int) (d tx : ByteArray) (ls : Value) (h0 : 0 ≤ m.frm) (hn : m.frm < l.n) (hin : l.within seq) :
    Calls Try.prog 37 #[.pointer (some ⟨g, 0, none⟩), .agg #[.int .i64 m.frm, .string m.body, .string m.sig], .agg #[.int .i64 4, .int .i64 l.view, .int .i64 seq, .int .i64 c1, .int .i64 c2, .string d, .string tx, ls]] w fun e w' => e = .returned (.int .i64 (l.vote m 4 l.view seq d).2) ∧ VoteTo w w' g gm gv (l.vote m 4 l.view seq d).1 ∧ Only (feetV g gv) w w' := by
  have HW := Lib.hid (fun wx (hx : AtV wx g gm gv kv l) => within_calls hx seq)
  rw [decide_eq_true hin] at HW
  obtain ⟨s0, s1⟩ := Vl.within_ix h.ok hin
  have HA := Lib.hid (fun w => at_calls w g seq s0)
  have hk8 := ix_lt seq
  have HV := Lib.hid (step_kind l m 4 seq d 1 (by decide) (by omega) h0 hn hin)
  have HN0 := Lib.hid (show 0 ≤ m.frm ∧ m.frm < l.n from ⟨h0, hn⟩)
  have Hn13 : Hid (l.n ≤ 13) := Lib.hid (by have := h.ok.n; omega)
  have Hw0 : Hid (AtV w g gm gv kv l) := Lib.hid h
  obtain ⟨fr, bo, si⟩ := m
  obtain ⟨a1, a2, a3, a4⟩ := boxed h #[.int .i64 fr, .string bo, .string si] #[.int .i64 4, .int .i64 l.view, .int .i64 seq, .int .i64 c1, .int .i64 c2, .string d, .string tx, ls] 48 46
  have hA := Lib.hid a1
  have hM := Lib.hid a2
  have hB := Lib.hid a3
  have hBl := Lib.hid a4
  clear a1 a2 a3 a4
  obtain ⟨n, hnn⟩ : ∃ n, Hid (l.n = n) := ⟨_, Lib.hid rfl⟩
  obtain ⟨vw, hvw⟩ : ∃ n, Hid (l.view = n) := ⟨_, Lib.hid rfl⟩
  have y1 : decide (fr < 0) = false := by simpa using h0
  have y2 : decide (n ≤ fr) = false := by rw [← hnn.out]; simpa using hn
  have hfr : (Lit.int .i64 fr).wf = true := wf64 (by have : (0 : Int) ≤ fr := h0; have : fr < l.n := hn; have := Hn13.out; omega)
  obtain ⟨k, hk⟩ : ∃ k, ix seq = k := ⟨_, rfl⟩
  rw [hk] at HA hk8 HV
  clear hn hin h hk h0
  have qT : ∀ (w : World) (r : Option Nat), (binOp .eql 74 (.map r) (.map none)).run Try.prog w = .ok (.bool r.isNone) w := fun w r => run_eql_map_nil w _ _ _ r Try.underlying74
  go_enter Try.func37, Try.ntmps37
  go_upto_region 1 with (fail)
  have hgl : g < w.heap.size := Hw0.out.blk.lt
  generalize w.heap.size = gb at hM hB hgl ⊢
  generalize World.alloc (World.alloc w _) _ = w2 at hA hM hB hBl ⊢
  have m0 : w2.cell? ⟨gb, 0, none⟩ = some (.int .i64 fr) := hM.out.cell 0
  have b0 : w2.cell? ⟨gb + 1, 0, none⟩ = some (.int .i64 4) := hB.out.cell 0
  have b1 : w2.cell? ⟨gb + 1, 1, none⟩ = some (.int .i64 vw) := by rw [← hvw.out]; exact hB.out.cell 1
  have b2 : w2.cell? ⟨gb + 1, 2, none⟩ = some (.int .i64 seq) := hB.out.cell 2
  obtain ⟨n0, n1, n2, n3⟩ := hA.out.head
  rw [hnn.out] at n0
  rw [hvw.out] at n1
  clear n2 n3
  go_quiet (fail)
  go_upto_region 3 with (fail)
  go_quiet ((go_at_call 34; (with_reducible refine (HW.out _ (hA.out.drewN _)).mono ?_); rintro e w' ⟨rfl, rfl⟩; exact ⟨rfl, _, rfl⟩))
  go_upto_region 5 with (fail)
  go_quiet ((go_at_call 35; (with_reducible refine (HA.out _).mono ?_); rintro e w' ⟨rfl, rfl⟩; exact ⟨rfl, _, rfl⟩))
  go_upto_region 6 with (fail)
  go_quiet (fail)
  go_upto_region 7 with (fail)
  generalize hw5 : World.drewN _ _ = w5
  have hb5 : Below w2.heap.size w2 w5 := by rw [← hw5]; repeat (first | exact Below.refl _ _ | refine below_draw ?_ _)
  have A5 := Lib.hid (hA.out.below hb5)
  have hbl5 := Lib.hid (below_next hBl.out hb5)
  have B5 := Lib.hid (hB.out.below hb5 hB.out.lt)
  have M5 := Lib.hid (hM.out.below hb5 hM.out.lt)
  clear hw5 hb5 m0 b0 b1 b2 n0 n1 hA hB hM hBl y1 y2
  obtain ⟨ov, hov⟩ : ∃ ov, Hid ((l.slots k).votes 1 fr = ov) := ⟨_, Lib.hid rfl⟩
  have hlkf : Hid (∀ wx, AtV wx g gm gv kv l → (Instr.lookup 74 (.map (gv k 1)) (.int .i64 fr) true).run Try.prog wx = .ok (.tuple #[(ov.getD Vt.zero).val, .bool ov.isSome]) wx) := Lib.hid fun wx hx => by
    have := hx.look (k := k) (j := 1) hk8 (by omega) fr hfr
    rw [hov.out] at this
    exact this
  obtain ⟨v, hvv⟩ : ∃ v, Hid (ov.getD Vt.zero = v) := ⟨_, Lib.hid rfl⟩
  obtain ⟨ok, hok⟩ : ∃ ok, Hid (ov.isSome = ok) := ⟨_, Lib.hid rfl⟩
  rw [hvv.out, hok.out] at hlkf
  obtain ⟨⟨fo, bd, sg⟩, dd⟩ := v
  go_cut [9, 10] from 64 (fun s9 s10 wc => s9 = .pointer (some ⟨w5.heap.size, 0, none⟩) ∧ s10 = .bool ok ∧ wc = (w5.alloc (.cells #[.int .i64 fo, .string bd, .string sg, .string dd] 91)).drew)
  case first =>
    have m0 : w5.cell? ⟨gb, 0, none⟩ = some (.int .i64 fr) := M5.out.cell 0
    have v0 : w5.cell? ⟨g, 3 + k * 13 + 3 + 1, none⟩ = some (.map (gv k 1)) := A5.out.field (k := k) (j := 3 + 1) hk8 (by omega)
    have hlk2 : (Instr.lookup 74 (.map (gv k 1)) (.int .i64 fr) true).run Try.prog w5.drew = .ok (.tuple #[.agg #[.int .i64 fo, .string bd, .string sg, .string dd], .bool ok]) w5.drew := hlkf.out _ (A5.out.drewN 1)
    have Az := Lib.hid (A5.out.below ((Below.refl w5.heap.size w5).alloc (Nat.le_refl _) (.cells #[.int .i64 0, .string ⟨#[]⟩, .string ⟨#[]⟩, .string ⟨#[]⟩] 91)))
    have v0y : (w5.alloc (.cells #[.int .i64 0, .string ⟨#[]⟩, .string ⟨#[]⟩, .string ⟨#[]⟩] 91)).cell? ⟨g, 3 + k * 13 + 3 + 1, none⟩ = some (.map (gv k 1)) := Az.out.field (k := k) (j := 3 + 1) hk8 (by omega)
    have m0z : (w5.alloc (.cells #[.int .i64 0, .string ⟨#[]⟩, .string ⟨#[]⟩, .string ⟨#[]⟩] 91)).cell? ⟨gb, 0, none⟩ = some (.int .i64 fr) := (M5.out.alloc _).cell 0
    have hlk4 : (Instr.lookup 74 (.map (gv k 1)) (.int .i64 fr) true).run Try.prog (w5.alloc (.cells #[.int .i64 0, .string ⟨#[]⟩, .string ⟨#[]⟩, .string ⟨#[]⟩] 91)).drew = .ok (.tuple #[.agg #[.int .i64 fo, .string bd, .string sg, .string dd], .bool ok]) (w5.alloc (.cells #[.int .i64 0, .string ⟨#[]⟩, .string ⟨#[]⟩, .string ⟨#[]⟩] 91)).drew := hlkf.out _ (Az.out.drewN 1)
    go_region
    all_goals (go_wp2_with fail; go_meet; exact ⟨rfl, rfl, rfl⟩)
  case rest =>
    obtain ⟨rfl, rfl, hwc⟩ := hcut
    obtain ⟨w6, hw6⟩ : ∃ w6, w6 = wc := ⟨_, rfl⟩
    subst hw6
    have hb6 : Below w5.heap.size w5 w6 := by rw [hwc]; exact ((Below.refl _ _).alloc (Nat.le_refl _) _).drew
    have D6 : Hid (Blk w6 w5.heap.size 91 #[.int .i64 fo, .string bd, .string sg, .string dd]) := Lib.hid (by rw [hwc]; exact (Blk.new _ _ _).drew)
    have A6 := Lib.hid (A5.out.below hb6)
    have M6 := Lib.hid (M5.out.below hb6 M5.out.lt)
    have B6 := Lib.hid (B5.out.below hb6 B5.out.lt)
    have hbl6 := Lib.hid (below_next hbl5.out hb6)
    generalize w5.heap.size = gd at D6 ⊢
    clear hwc hb6 M5 B5 A5 hbl5 HW HA hlkf
    have hend : Hid (∀ w' c, Below w.heap.size w w' → l.vote ⟨fr, bo, si⟩ 4 l.view seq d = (l, c) → VoteTo w w' g gm gv (l.vote ⟨fr, bo, si⟩ 4 l.view seq d).1 ∧ Only (feetV g gv) w w') := Lib.hid fun w' c hb e => ⟨⟨gv, kv, by rw [e]; exact Hw0.out.below hb, fun _ _ _ _ _ h => .inl h⟩, Only.of_below hb⟩
    cases ok with
    | true =>
      have hs : ov = some ⟨⟨fo, bd, sg⟩, dd⟩ := by
        have h1 := hvv.out
        have h2 := hok.out
        cases ov with
        | none => cases h2
        | some x => exact congrArg some h1
      have E : Hid (l.vote ⟨fr, bo, si⟩ 4 l.view seq d = if dd = d then (l, 101) else (l, 102)) := Lib.hid (HV.out.trans (by rw [show (l.slots k).votes 1 fr = some ⟨⟨fo, bd, sg⟩, dd⟩ from hov.out.trans hs]))
      have d3 : w6.cell? ⟨gd, 1 + 2, none⟩ = some (.string dd) := D6.out.cell 3
      have d3' : w6.cell? ⟨gd, 3, none⟩ = some (.string dd) := D6.out.cell 3
      have b5 : w6.cell? ⟨gb + 1, 5, none⟩ = some (.string d) := B6.out.cell 5
      clear hs hov hvv hok HV
      by_cases e : dd = d
      · subst e
        have E2 : Hid (l.vote ⟨fr, bo, si⟩ 4 l.view seq dd = (l, 101)) := Lib.hid (by rw [E.out, if_pos rfl])
        rw [E2.out] at hend
        go_wp2
        go_ret
        rw [E2.out]
        exact ⟨rfl, hend.out _ 101 hbl6.out rfl⟩
      · have E2 : Hid (l.vote ⟨fr, bo, si⟩ 4 l.view seq d = (l, 102)) := Lib.hid (by rw [E.out, if_neg e])
        rw [E2.out] at hend
        have u1 := text_ne e
        have u2 := text_apart e
        clear e
        go_wp2
        go_ret
        rw [E2.out]
        exact ⟨rfl, hend.out _ 102 hbl6.out rfl⟩
    | false =>
      have hs : ov = none := by
        have h2 := hok.out
        cases ov with
        | none => rfl
        | some x => cases h2
      have E : Hid (l.vote ⟨fr, bo, si⟩ 4 l.view seq d = ((l.put k ((l.slots k).vote 1 fr ⟨⟨fr, bo, si⟩, d⟩)).keep seq, 0)) := Lib.hid (HV.out.trans (by rw [show (l.slots k).votes 1 fr = none from hov.out.trans hs]))
      clear hs hov hvv hok HV hend D6
      have hwg : Hid (w.heap.size ≤ w6.heap.size) := Lib.hid hbl6.out.size
      have v0 : w6.cell? ⟨g, 3 + k * 13 + 3 + 1, none⟩ = some (.map (gv k 1)) := A6.out.field (k := k) (j := 3 + 1) hk8 (by omega)
      have f0 := A6.out.blk.frozen (3 + k * 13 + 3 + 1)
      have hmm := @run_makeMap Try.prog
      obtain ⟨mo, hmo⟩ : ∃ mo, Hid (gv k 1 = mo) := ⟨_, Lib.hid rfl⟩
      rw [hmo.out] at v0
      go_upto_if 82 with (fail)
      go_cut [10] from 79 (fun s10 w7 => s10 = .bool false ∧ ∃ gv' b, Hid (AtV w7 g gm gv' kv l) ∧ Hid (gv' k 1 = some b) ∧ Hid (Wider w gv gv') ∧ Hid (Only (fun x => x = g) w6 w7) ∧ Hid (Blk w7 gb 48 #[.int .i64 fr, .string bo, .string si]) ∧ Hid (Blk w7 (gb + 1) 46 #[.int .i64 4, .int .i64 l.view, .int .i64 seq, .int .i64 c1, .int .i64 c2, .string d, .string tx, ls]))
      case first =>
        cases mo with
        | none =>
          have A6a := Lib.hid (A6.out.below ((Below.refl _ _).alloc (Nat.le_refl _) (.map #[] 0)))
          have v0a : (w6.alloc (.map #[] 0)).cell? ⟨g, 3 + k * 13 + 3 + 1, none⟩ = some (.map none) := by
            have := A6a.out.field (k := k) (j := 3 + 1) hk8 (by omega)
            rw [show slotCell (l.slots k) (gv k) (kv k) (3 + 1) = .map (gv k 1) from rfl, hmo.out] at this
            exact this
          have f0a : (w6.alloc (.map #[] 0)).frozen? ⟨g, 3 + k * 13 + 3 + 1, none⟩ = false := A6a.out.blk.frozen _
          go_wp2
          go_meet
          refine ⟨rfl, _, w6.heap.size, Lib.hid (A6.out.newMap hk8 (by omega) hmo.out), Lib.hid (by simp), Lib.hid ?_, Lib.hid ?_, Lib.hid ((M6.out.alloc _).far (by omega) _), Lib.hid ((B6.out.alloc _).far (by omega) _)⟩
          · intro k' j' b' hk' hj' hb'
            by_cases e1 : k' = k
            · subst e1
              simp only [if_pos] at hb'
              by_cases e2 : j' = 1
              · rw [if_pos e2] at hb'
                cases hb'
                exact .inr hwg.out
              · rw [if_neg e2] at hb'
                exact .inl hb'
            · simp only [if_neg e1] at hb'
              exact .inl hb'
          · exact (Only.of_below (S := fun x => x = g) ((Below.refl _ _).alloc (Nat.le_refl _) _)).setCell (.inl rfl) _
        | some b =>
          go_wp2
          go_meet
          exact ⟨rfl, gv, b, A6, hmo, Lib.hid fun _ _ _ _ _ h => .inl h, Lib.hid (Only.refl _ _), M6, B6⟩
      case rest =>
        obtain ⟨rfl, gv', b, A7, hbg, hWd, hO7, M7, B7⟩ := hcut
        have v7 : wc.cell? ⟨g, 3 + k * 13 + 3 + 1, none⟩ = some (.map (some b)) := by
          have := A7.out.field (k := k) (j := 3 + 1) hk8 (by omega)
          rw [← hbg.out]
          exact this
        have m0 : wc.cell? ⟨gb, 0, none⟩ = some (.int .i64 fr) := M7.out.cell 0
        have m1 : wc.cell? ⟨gb, 1, none⟩ = some (.string bo) := M7.out.cell 1
        have m2 : wc.cell? ⟨gb, 2, none⟩ = some (.string si) := M7.out.cell 2
        have b5 : wc.cell? ⟨gb + 1, 5, none⟩ = some (.string d) := B7.out.cell 5
        clear v0 f0 hmm A6 M6 B6
        go_upto_region 14 with (fail)
        go_still_tail 9, (by kernel_rfl)
        change wpList _ _ _ _ _ wc.drew
        have A7d := Lib.hid (A7.out.drewN 1)
        have hi13 : 0 ≤ fr ∧ fr < 13 := by have := HN0.out; have := Hn13.out; simp only at *; omega
        refine wpList_put rfl (.tmp 88) (.tmp 90) (.tmp 94) 74 rfl Try.underlying3 Try.underlying74 b (votesOf (l.slots k) 1) fr (.agg #[.int .i64 fr, .string bo, .string si, .string d]) rfl (A7d.out.mapAt hk8 (by omega) hbg.out) hi13 rfl rfl ?_
        intro w8 hm8 hg8
        have hbne : gb + 1 ≠ b := fun e => by
          obtain ⟨es, cl, h1⟩ := (A7.out.mapAt hk8 (by omega) hbg.out).cells
          have h2 := B7.out
          unfold Blk at h2
          rw [e, h1] at h2; cases h2
        have A8 := Lib.hid (A7d.out.voted hk8 (by omega) hbg.out fr ⟨⟨fr, bo, si⟩, d⟩ HN0.out hm8 hg8)
        have B8 : Blk w8 (gb + 1) 46 #[.int .i64 4, .int .i64 l.view, .int .i64 seq, .int .i64 c1, .int .i64 c2, .string d, .string tx, ls] := by
          have := hg8.block (gb + 1) B7.out.lt (fun e => hbne (Option.some.inj e))
          unfold Blk
          rw [this]; exact B7.out
        have b2 : w8.cell? ⟨gb + 1, 2, none⟩ = some (.int .i64 seq) := B8.cell 2
        have HK := Lib.hid (keep_calls A8.out seq s0)
        have hO8 : Hid (Only (fun x => x = b) wc.drew w8) := Lib.hid ((Only.of_grown hg8).mono fun x hx => Option.some.inj hx)
        clear B8 hbne hm8 hg8 v7 m0 m1 m2 b5 A7d hi13
        go_wp2_with (first
          | (go_at_call 36; (refine HK.out.mono ?_); rintro e w9 ⟨rfl, hk1, hk2⟩; have HK1 := Lib.hid hk1; have HK2 := Lib.hid hk2; clear hk1 hk2))
        go_ret
        rw [E.out]
        obtain ⟨kv', hk1⟩ := HK1.out
        refine ⟨rfl, ⟨gv', kv', hk1, hWd.out⟩, ?_⟩
        have o1 : Only (feetV g gv) w w6 := Only.of_below hbl6.out
        have o2 : Only (feetV g gv) w wc := o1.trans hO7.out fun x hx => .inl (.inl hx)
        have o3 : Only (feetV g gv) w wc.drew := o2.drewN 1
        have o4 : Only (feetV g gv) w w8 := o3.trans hO8.out fun x hx => by
          have hx' : x = b := hx
          subst hx'
          rcases hWd.out k 1 _ hk8 (by omega) hbg.out with h1 | h1
          · exact .inl (.inr ⟨k, 1, hk8, by omega, h1⟩)
          · exact .inr h1
        exact o4.trans HK2.out fun x hx => .inl (.inl hx)
end Go.Proofs.Ytedndjbhgbdpoaa
