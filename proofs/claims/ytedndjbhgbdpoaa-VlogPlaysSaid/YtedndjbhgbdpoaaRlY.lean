/- The reference's Agree (printed by genra.py). -/
import Derived.Test.YtedndjbhgbdpoaaRlX
namespace Go.Proofs.Ytedndjbhgbdpoaa
open Go.RowKit
set_option linter.unusedSimpArgs false
namespace Rl
def agr (l : Rl) (kind seq : Int) (p : It) (i : Nat) : List Sg := (List.range i).filterMap fun (i : Nat) => l.agreeing kind seq p (i : Int)
theorem agr_snoc (l : Rl) (kind seq : Int) (p : It) (i : Nat) : l.agr kind seq p (i + 1) = l.agr kind seq p i ++ (match l.agreeing kind seq p (i : Int) with | some x => [x] | Option.none => []) := by
  unfold agr
  rw [List.range_succ, List.filterMap_append]
  cases h : l.agreeing kind seq p (i : Int) <;> simp [h]
theorem agr_le (l : Rl) (kind seq : Int) (p : It) (i : Nat) : (l.agr kind seq p i).length ≤ i := by
  unfold agr
  have := List.length_filterMap_le (fun (i : Nat) => l.agreeing kind seq p (i : Int)) (List.range i)
  rwa [List.length_range] at this
end Rl
theorem Mine.base3 {w0 w1 w : World} {sz : Nat} {v : Value} {n : Nat} {xs : List Value} (h : Mine w1 w sz v n xs) (hs : w0.heap.size ≤ w1.heap.size) : Mine w0 w sz v n xs := by
  obtain ⟨b, h1, h2⟩ := h
  exact ⟨b, h1, fun g hg => Nat.le_trans hs (h2 g hg)⟩
def TellsList (w : World) (L : List Sg) (e : Ending) (w' : World) : Prop := ∃ A' c', e = .returned (.slice A' L.length c') ∧ Mine w w' 3 (.slice A' L.length c') L.length (scells L) ∧ Below w.heap.size w w'
theorem tellsList {w w' : World} {L L' : List Sg} {A : Option Addr} {m c : Nat} (hL : L = L') (hm : L'.length = m) (h1 : Mine w w' 3 (.slice A m c) m (scells L')) (h2 : Below w.heap.size w w') : TellsList w L (.returned (.slice A m c)) w' := by
  subst hL hm
  exact ⟨A, c, rfl, h1, h2⟩
set_option maxHeartbeats 4000000 in
theorem ragree_calls (w : World) (A B : Option Addr) (cA k cB : Nat) (y : Rl) (h : IRow w A y.L) (hlo : 0 ≤ y.low ∧ y.low ≤ 1073741824) (hlen : y.L.length ≤ 1000) (hn : y.n = 4 ∨ y.n = 7 ∨ y.n = 10 ∨ y.n = 13) (kind seq : Int) :
    Calls Try.prog 57 #[.agg #[.int .i64 y.n, .int .i64 y.view, .int .i64 y.low, .slice A y.L.length cA, .slice B k cB], .int .i64 kind, .int .i64 seq] w (TellsList w (y.agree kind seq)) := by
  have HPr : Hid (∀ wx, Below w.heap.size w wx → Calls Try.prog 52 #[.agg #[.int .i64 y.n, .int .i64 y.view, .int .i64 y.low, .slice A y.L.length cA, .slice B k cB], .int .i64 seq] wx fun e w' => e = .returned (.tuple #[.agg #[.int .i64 ((y.proposal seq).getD It.none).kind, .int .i64 ((y.proposal seq).getD It.none).frm, .int .i64 ((y.proposal seq).getD It.none).view, .int .i64 ((y.proposal seq).getD It.none).seq, .string ((y.proposal seq).getD It.none).digest, .string ((y.proposal seq).getD It.none).batch, .int .i64 ((y.proposal seq).getD It.none).m.frm, .string ((y.proposal seq).getD It.none).m.body, .string ((y.proposal seq).getD It.none).m.sig], .bool (y.proposal seq).isSome]) ∧ Below wx.heap.size wx w') := Lib.hid fun wx hb => rproposal_calls wx A B cA k cB y (h.below hb) hlo hlen seq
  have HVo : Hid (∀ (i : Nat) wx, Below w.heap.size w wx → Calls Try.prog 54 #[.agg #[.int .i64 y.n, .int .i64 y.view, .int .i64 y.low, .slice A y.L.length cA, .slice B k cB], .int .i64 kind, .int .i64 seq, .int .i64 (i : Int)] wx fun e w' => e = .returned (.tuple #[.agg #[.int .i64 ((y.voted kind seq (i : Int)).getD It.none).kind, .int .i64 ((y.voted kind seq (i : Int)).getD It.none).frm, .int .i64 ((y.voted kind seq (i : Int)).getD It.none).view, .int .i64 ((y.voted kind seq (i : Int)).getD It.none).seq, .string ((y.voted kind seq (i : Int)).getD It.none).digest, .string ((y.voted kind seq (i : Int)).getD It.none).batch, .int .i64 ((y.voted kind seq (i : Int)).getD It.none).m.frm, .string ((y.voted kind seq (i : Int)).getD It.none).m.body, .string ((y.voted kind seq (i : Int)).getD It.none).m.sig], .bool (y.voted kind seq (i : Int)).isSome]) ∧ Below wx.heap.size wx w') := Lib.hid fun i wx hb => rvoted_calls wx A B cA k cB y (h.below hb) hlo hlen kind seq (i : Int)
  have HAg : Hid (y.agree kind seq = match y.proposal seq with | some p => y.agr kind seq p y.n.toNat | Option.none => []) := Lib.hid rfl
  have HAi : Hid (∀ p (i : Nat), y.agreeing kind seq p (i : Int) = match y.voted kind seq (i : Int) with | some v => if v.digest = p.digest then some v.m else Option.none | Option.none => Option.none) := Lib.hid fun _ _ => rfl
  have HSn := Lib.hid (fun p i => Rl.agr_snoc y kind seq p i)
  have HLe := Lib.hid (fun p i => Rl.agr_le y kind seq p i)
  obtain ⟨vv, hv⟩ : ∃ vv : Nat → Option It, Hid (∀ i : Nat, y.voted kind seq (i : Int) = vv i) := ⟨fun i => y.voted kind seq (i : Int), Lib.hid fun _ => rfl⟩
  obtain ⟨n, hnn⟩ : ∃ n : Nat, Hid (y.n = (n : Int)) := ⟨y.n.toNat, Lib.hid (by omega)⟩
  have hN : Hid (y.n.toNat = n) := Lib.hid (by rw [hnn.out]; rfl)
  rw [hnn.out] at hn HPr HVo ⊢
  have hn4 : 4 ≤ n := by omega
  have hn13 : n ≤ 13 := by omega
  have hnp : 0 < n := by omega
  generalize y.L.length = m at HPr HVo ⊢
  obtain ⟨i1, hi1, hy0, hy1, hy2⟩ := info_parts info_sg
  have HI1 := Lib.hid hi1
  have HY0 := Lib.hid hy0
  have HY1 := Lib.hid hy1
  have HY2 := Lib.hid hy2
  clear hi1 hy0 hy1 hy2 h hn hlo hlen
  have hb0 : Hid (Below w.heap.size w (w.alloc (.cells #[.int .i64 (n : Int), .int .i64 y.view, .int .i64 y.low, .slice A m cA, .slice B k cB] 65))) := Lib.hid ((Below.refl _ _).alloc (Nat.le_refl _) _)
  have B0 : Hid (Blk (w.alloc (.cells #[.int .i64 (n : Int), .int .i64 y.view, .int .i64 y.low, .slice A m cA, .slice B k cB] 65)) w.heap.size 65 #[.int .i64 (n : Int), .int .i64 y.view, .int .i64 y.low, .slice A m cA, .slice B k cB]) := Lib.hid (Blk.new _ _ _)
  obtain ⟨v, hvw⟩ : ∃ v, y.view = v := ⟨_, rfl⟩
  obtain ⟨lo, hlo⟩ : ∃ lo, y.low = lo := ⟨_, rfl⟩
  rw [hvw, hlo] at HPr HVo hb0 B0 ⊢
  clear hvw hlo
  go_enter Try.func57, Try.ntmps57
  go_upto_region 1 with (fail)
  obtain ⟨g1, hg1⟩ : ∃ g1, w.heap.size = g1 := ⟨_, rfl⟩
  rw [hg1] at B0 ⊢
  clear hg1
  generalize World.alloc w _ = wy at hb0 B0 ⊢
  have HX : Hid (∀ wx : World, Below wy.heap.size wy wx → wx.cell? ⟨g1, 0, none⟩ = some (.int .i64 (n : Int)) ∧ wx.cell? ⟨g1, 1, none⟩ = some (.int .i64 v) ∧ wx.cell? ⟨g1, 2, none⟩ = some (.int .i64 lo) ∧ wx.cell? ⟨g1, 3, none⟩ = some (.slice A m cA) ∧ wx.cell? ⟨g1, 4, none⟩ = some (.slice B k cB)) := Lib.hid fun wx hb => by
    have b1 := B0.out.below hb B0.out.lt
    exact ⟨b1.cell 0, b1.cell 1, b1.cell 2, b1.cell 3, b1.cell 4⟩
  obtain ⟨c0, c1, c2, c3, c4⟩ := HX.out wy (Below.refl _ _)
  have HPx := Lib.hid (HPr.out wy hb0.out)
  clear HPr
  cases hpo : y.proposal seq with
  | none =>
    have E : Hid (y.agree kind seq = []) := Lib.hid (by rw [HAg.out, hpo])
    rw [hpo] at HPx
    simp only [Option.getD_none, Option.isSome_none] at HPx
    generalize It.none = q at HPx
    clear hpo
    go_wp2_with (first
      | (go_at_call 52; (with_reducible refine (HPx.out).mono ?_); rintro e w1 ⟨rfl, hb1⟩; have Hb1 := Lib.hid hb1; clear hb1 c0 c1 c2 c3 c4; obtain ⟨c0, c1, c2, c3, c4⟩ := HX.out w1 Hb1.out))
    go_loopg [7, 10] 1 (fun gk s7 s10 wr => gk = 1 ∧ s7 = .slice none 0 0 ∧ s10 = .int .i64 0 ∧ Hid (Below wy.heap.size wy wr))
    case atStart => exact ⟨rfl, rfl, rfl, Lib.hid (below_next Hb1.out ((Below.refl _ _).alloc (Nat.le_refl _) _))⟩
    case round =>
      obtain ⟨rfl, rfl, rfl, hb⟩ := hrel
      obtain ⟨c0, c1, c2, c3, c4⟩ := HX.out wr hb.out
      go_wp2
      go_ret
      exact tellsList E.out rfl (Mine.empty _ _ _ _) (below_next hb0.out hb.out)
  | some p =>
    have E : Hid (y.agree kind seq = y.agr kind seq p n) := Lib.hid (by rw [HAg.out, hpo, ← hN.out])
    rw [hpo] at HPx
    simp only [Option.getD_some, Option.isSome_some] at HPx
    clear hpo
    go_upto_region 3 with (first
      | (go_at_call 52; (with_reducible refine (HPx.out).mono ?_); rintro e w1 ⟨rfl, hb1⟩; have Hb1 := Lib.hid hb1; clear hb1))
    clear c0 c1 c2 c3 c4
    have hb2 : Hid (Below wy.heap.size wy (w1.alloc (.cells #[.int .i64 p.kind, .int .i64 p.frm, .int .i64 p.view, .int .i64 p.seq, .string p.digest, .string p.batch, .int .i64 p.m.frm, .string p.m.body, .string p.m.sig] 106))) := Lib.hid (below_next Hb1.out ((Below.refl _ _).alloc (Nat.le_refl _) _))
    have BP : Hid (Blk (w1.alloc (.cells #[.int .i64 p.kind, .int .i64 p.frm, .int .i64 p.view, .int .i64 p.seq, .string p.digest, .string p.batch, .int .i64 p.m.frm, .string p.m.body, .string p.m.sig] 106)) w1.heap.size 106 #[.int .i64 p.kind, .int .i64 p.frm, .int .i64 p.view, .int .i64 p.seq, .string p.digest, .string p.batch, .int .i64 p.m.frm, .string p.m.body, .string p.m.sig]) := Lib.hid (Blk.new _ _ _)
    obtain ⟨gp, hgp⟩ : ∃ gp, w1.heap.size = gp := ⟨_, rfl⟩
    rw [hgp] at BP ⊢
    clear hgp Hb1
    generalize World.alloc w1 _ = wz at hb2 BP ⊢
    have HD : Hid (∀ wx : World, Below wz.heap.size wz wx → wx.cell? ⟨gp, 4, none⟩ = some (.string p.digest)) := Lib.hid fun wx hb => (BP.out.below hb BP.out.lt).cell 4
    go_wp2
    go_loopg [7, 10] (n + 1) (fun gk s7 s10 wr => ∃ i A' c', gk = n + 1 - i ∧ i ≤ n ∧ s10 = .int .i64 (i : Int) ∧ s7 = .slice A' (y.agr kind seq p i).length c' ∧ Hid (Mine wz wr 3 (.slice A' (y.agr kind seq p i).length c') (y.agr kind seq p i).length (scells (y.agr kind seq p i))) ∧ Hid (Below wz.heap.size wz wr))
    case atStart => exact ⟨0, none, 0, rfl, Nat.zero_le _, rfl, rfl, Lib.hid (Mine.empty _ _ _ _), Lib.hid (Below.refl _ _)⟩
    case round =>
      obtain ⟨i, A', c', rfl, hi, rfl, rfl, hm, hb⟩ := hrel
      have i0 : (0 : Int) ≤ (i : Int) := by omega
      have hby := Lib.hid (below_next hb2.out hb.out)
      have hbw := Lib.hid (below_next hb0.out hby.out)
      obtain ⟨c0, c1, c2, c3, c4⟩ := HX.out wr hby.out
      by_cases hlt : i < n
      · have hltI : (i : Int) < (n : Int) := by omega
        have hsn := Lib.hid (HSn.out p i)
        have hle := HLe.out p i
        have hai := Lib.hid (HAi.out p i)
        have HVx := Lib.hid (HVo.out i wr hbw.out)
        obtain ⟨ml, hml⟩ : ∃ ml, Hid ((y.agr kind seq p i).length = ml) := ⟨_, Lib.hid rfl⟩
        rw [hml.out] at hm hle ⊢
        cases hvo : y.voted kind seq (i : Int) with
        | none =>
          have E2 : Hid (y.agr kind seq p (i + 1) = y.agr kind seq p i) := Lib.hid (by rw [hsn.out, hai.out, hvo]; simp)
          rw [hvo] at HVx
          simp only [Option.getD_none, Option.isSome_none] at HVx
          generalize It.none = q at HVx
          clear hvo hsn hai
          go_wp2_with (first
            | (go_at_call 54; (with_reducible refine (HVx.out).mono ?_); rintro e w2 ⟨rfl, hb3⟩; have Hb3 := Lib.hid hb3; clear hb3))
          go_roundg (n + 1 - (i + 1))
          case measure => omega
          case rel =>
            have hbn := (below_next Hb3.out ((Below.refl w2.heap.size w2).alloc (Nat.le_refl _) (.cells #[.int .i64 q.kind, .int .i64 q.frm, .int .i64 q.view, .int .i64 q.seq, .string q.digest, .string q.batch, .int .i64 q.m.frm, .string q.m.body, .string q.m.sig] 106)))
            exact ⟨i + 1, A', c', rfl, by omega, by go_num, by rw [E2.out, hml.out], by rw [E2.out, hml.out]; exact Lib.hid (hm.out.below hbn), Lib.hid (below_next hb.out hbn)⟩
        | some q =>
          rw [hvo] at HVx
          simp only [Option.getD_some, Option.isSome_some] at HVx
          have hai2 : Hid (y.agreeing kind seq p (i : Int) = if q.digest = p.digest then some q.m else Option.none) := Lib.hid (by rw [hai.out, hvo])
          clear hvo hai
          go_upto_region 7 with (first
            | (go_at_call 54; (with_reducible refine (HVx.out).mono ?_); rintro e w2 ⟨rfl, hb3⟩; have Hb3 := Lib.hid hb3; clear hb3))
          clear c0 c1 c2 c3 c4
          have hb4 : Hid (Below wr.heap.size wr (w2.alloc (.cells #[.int .i64 q.kind, .int .i64 q.frm, .int .i64 q.view, .int .i64 q.seq, .string q.digest, .string q.batch, .int .i64 q.m.frm, .string q.m.body, .string q.m.sig] 106))) := Lib.hid (below_next Hb3.out ((Below.refl _ _).alloc (Nat.le_refl _) _))
          have BQ : Hid (Blk (w2.alloc (.cells #[.int .i64 q.kind, .int .i64 q.frm, .int .i64 q.view, .int .i64 q.seq, .string q.digest, .string q.batch, .int .i64 q.m.frm, .string q.m.body, .string q.m.sig] 106)) w2.heap.size 106 #[.int .i64 q.kind, .int .i64 q.frm, .int .i64 q.view, .int .i64 q.seq, .string q.digest, .string q.batch, .int .i64 q.m.frm, .string q.m.body, .string q.m.sig]) := Lib.hid (Blk.new _ _ _)
          obtain ⟨gq, hgq⟩ : ∃ gq, w2.heap.size = gq := ⟨_, rfl⟩
          rw [hgq] at BQ ⊢
          clear hgq Hb3
          generalize World.alloc w2 _ = wu at hb4 BQ ⊢
          have q4 : wu.cell? ⟨gq, 4, none⟩ = some (.string q.digest) := BQ.out.cell 4
          have q6 : wu.cell? ⟨gq, 6, none⟩ = some (.int .i64 q.m.frm) := BQ.out.cell 6
          have q7 : wu.cell? ⟨gq, 7, none⟩ = some (.string q.m.body) := BQ.out.cell 7
          have q8 : wu.cell? ⟨gq, 8, none⟩ = some (.string q.m.sig) := BQ.out.cell 8
          have p4 := HD.out wu (below_next hb.out hb4.out)
          have hm2 := Lib.hid (hm.out.below hb4.out)
          by_cases hd : q.digest = p.digest
          · have E2 : Hid (y.agr kind seq p (i + 1) = y.agr kind seq p i ++ [q.m]) := Lib.hid (by rw [hsn.out, hai2.out, if_pos hd])
            clear hsn hai2
            rw [hd] at q4
            clear hd
            have hbu := Lib.hid (below_next hb.out hb4.out)
            go_wp2_with (first
              | (refine wpList_append_mine rfl (.tmp 44) (.tmp 47) 44 44 rfl 48 i1 (.agg #[.int .i64 0, .string noText, .string noText]) 40 Try.underlying44 HI1.out HY0.out HY1.out HY2.out rfl (by decide) rfl (hm2.out.alloc _) (hbu.out.alloc hbu.out.size _) _ 1 [.int .i64 q.m.frm, .string q.m.body, .string q.m.sig] rfl (src_new Try.underlying44 _ _ _ 1 1 rfl (by simp [Value.oneCell'])) (by unfold maxLen; omega) (by omega) ?_; intro A2 c2 w3 hm3 hb5; have HM3 := Lib.hid hm3; have HB5 := Lib.hid hb5; clear hm3 hb5))
            go_roundg (n + 1 - (i + 1))
            case measure => omega
            case rel =>
              have hlen : (y.agr kind seq p (i + 1)).length = ml + 1 := by rw [E2.out, List.length_append, hml.out]; rfl
              refine ⟨i + 1, A2, c2, rfl, by omega, by go_num, by rw [hlen], Lib.hid ?_, Lib.hid ?_⟩
              · rw [hlen, E2.out, scells_append]
                exact HM3.out
              · exact HB5.out
          · have E2 : Hid (y.agr kind seq p (i + 1) = y.agr kind seq p i) := Lib.hid (by rw [hsn.out, hai2.out, if_neg hd]; simp)
            have hd2 := text_ne hd
            have hd3 := text_apart hd
            have hd4 := text_differ hd
            clear hsn hai2 hd
            go_wp2
            go_roundg (n + 1 - (i + 1))
            case measure => omega
            case rel => exact ⟨i + 1, A', c', rfl, by omega, by go_num, by rw [E2.out, hml.out], by rw [E2.out, hml.out]; exact hm2, Lib.hid (below_next hb.out hb4.out)⟩
      · obtain rfl : i = n := by omega
        go_wp2
        go_ret
        exact tellsList E.out rfl (hm.out.base3 (Nat.le_trans hb0.out.size hb2.out.size)) hbw.out
end Go.Proofs.Ytedndjbhgbdpoaa
