/- The walk of VlogCuts: a cut forgets what stands up to its number and changes nothing above it; other numbers are refused. -/
import Derived.Test.YtedndjbhgbdpoaaVlD
namespace Go.Proofs.Ytedndjbhgbdpoaa
open Go.RowKit
def hadF (l : Vl) (j : Nat) : Bool := (l.proposal (l.low + (j : Int))).2.2
def votedF (l : Vl) (j : Nat) : Bool := (l.voted 4 (l.low + (j : Int)) 3).isSome
theorem wf3 : (Lit.int .i64 3).wf = true := by decide
set_option maxHeartbeats 8000000 in
set_option maxRecDepth 100000 in
theorem VlogCuts_walk (w : World) (A : Option Addr) (n c : Nat) (Z : Nat → VAct) (hZ : Script w A n Z) (seq : Int) (_hs : (Lit.int .i64 seq).wf = true) :
    Calls Try.prog 7 #[.slice A n c, .int .i64 seq] w fun e w' => e = .returned (.bool true) ∧ Below w.heap.size w w' := by
  have HA := Lib.hid (fun w => awake_calls w)
  have HBg := Lib.hid (begun_calls w A n c Z hZ)
  clear hZ _hs
  have HI := Lib.hid (Vl.seven_inv Z (min n 80))
  generalize (Vl.seven).acts Z (min n 80) = l at HBg HI
  have HP := Lib.hid (fun wx g (x : Vl) (h : Vw w wx g x) s => h.proposal s)
  have HV := Lib.hid (fun wx g (x : Vl) (h : Vw w wx g x) s => h.voted 4 (.inr rfl) s 3 wf3)
  go_enter Try.func7, Try.ntmps7
  go_upto_region 2 with (first
    | (go_at_call 19; (refine (HBg.out).mono ?_); rintro e w1 ⟨g, rfl, h⟩; have H1 := Lib.hid h; clear h))
  have HLo := Lib.hid (fun wx (x : Vl) (h : Vw w wx g x) => h.low)
  have HLo1 := Lib.hid (H1.out.low)
  have HKe := Lib.hid (H1.out.kept)
  have hlow := H1.out.ok.low
  obtain ⟨lo, hlo⟩ : ∃ lo, Hid (l.low = lo) := ⟨_, Lib.hid rfl⟩
  have HF0 : Hid (∀ i : Nat, hadF l i = (l.proposal (lo + (i : Int))).2.2) := Lib.hid fun i => by rw [← hlo.out]; rfl
  have HF1 : Hid (∀ i : Nat, votedF l i = (l.voted 4 (lo + (i : Int)) 3).isSome) := Lib.hid fun i => by rw [← hlo.out]; rfl
  rw [hlo.out] at HLo1 hlow
  obtain ⟨hlow0, hlow1⟩ := hlow
  go_upto_region 6 with (first
    | (go_at_call 20; (with_reducible refine (HLo1.out).mono ?_); rintro e w2 ⟨rfl, rfl⟩)
    | (go_at_call 22; (refine (HKe.out).mono ?_); rintro e w2 ⟨A1, c1, rfl, hk, hb⟩; have HK2 := Lib.hid hk; have hb2 := Lib.hid hb; clear hk hb))
  obtain ⟨m, hm⟩ : ∃ m, Hid (l.kept.length = m) := ⟨_, Lib.hid rfl⟩
  rw [hm.out] at HK2 ⊢
  go_upto_region 7 with (fail)
  obtain ⟨ws, hws⟩ : ∃ ws, ws = (w2.alloc (.cells #[.bool false, .bool false, .bool false, .bool false, .bool false, .bool false, .bool false, .bool false, .bool false] 51)).alloc (.cells #[.bool false, .bool false, .bool false, .bool false, .bool false, .bool false, .bool false, .bool false, .bool false] 51) := ⟨_, rfl⟩
  have hb3 : Hid (Below w2.heap.size w2 ws) := Lib.hid (by rw [hws]; exact ((Below.refl _ _).alloc (Nat.le_refl _) _).alloc (by simp) _)
  have hB0 : Hid (Blk ws w2.heap.size 51 (bools (hadF l) 9 0).toArray) := Lib.hid (by rw [hws, bools_none]; exact (Blk.new _ _ _).alloc _)
  have hB1 : Hid (Blk ws (w2.heap.size + 1) 51 (bools (votedF l) 9 0).toArray) := Lib.hid (by rw [hws, bools_none]; have := Blk.new (w2.alloc (.cells #[.bool false, .bool false, .bool false, .bool false, .bool false, .bool false, .bool false, .bool false, .bool false] 51)) 51 #[.bool false, .bool false, .bool false, .bool false, .bool false, .bool false, .bool false, .bool false, .bool false]; simpa using this)
  rw [← hws]
  clear hws
  obtain ⟨gh, hgh⟩ : ∃ gh, w2.heap.size = gh := ⟨_, rfl⟩
  have HGH := Lib.hid hgh
  have hgg := Lib.hid (Nat.lt_of_lt_of_le H1.out.lt hb2.out.size)
  rw [hgh] at hB0 hB1 hgg ⊢
  clear hgh
  have H2 := Lib.hid (H1.out.next hb2.out)
  go_wp2
  go_loopg [10] 10 (fun gk s10 wr => ∃ i : Nat, gk = 10 - i ∧ i ≤ 9 ∧ s10 = .int .i64 (i : Int) ∧ Hid (Blk wr gh 51 (bools (hadF l) 9 i).toArray) ∧ Hid (Blk wr (gh + 1) 51 (bools (votedF l) 9 i).toArray) ∧ Hid (Below w2.heap.size w2 wr))
  case atStart => exact ⟨0, rfl, Nat.zero_le _, rfl, hB0, hB1, hb3⟩
  case round =>
    clear hB0 hB1 hb3
    obtain ⟨i, rfl, hi, rfl, hB, hC, hb⟩ := hrel
    have i0 : (0 : Int) ≤ (i : Int) := by omega
    by_cases hlt : i < 9
    · have hltI : (i : Int) < 9 := by omega
      have hltI8 : (i : Int) ≤ 8 := by omega
      have Hx := Lib.hid (H2.out.next hb.out)
      have HPx := Lib.hid (HP.out wr g l Hx.out (lo + (i : Int)))
      have HVx := Lib.hid (fun wx (hh : Below w2.heap.size w2 wx) => HV.out wx g l (H2.out.next hh) (lo + (i : Int)))
      have e0 := HF0.out i
      have e1 := HF1.out i
      unfold TellsVote at HVx
      generalize (l.proposal (lo + (i : Int))).2.2 = p at HPx e0
      generalize (l.proposal (lo + (i : Int))).1 = p1 at HPx
      generalize (l.proposal (lo + (i : Int))).2.1 = p2 at HPx
      generalize (l.voted 4 (lo + (i : Int)) 3).isSome = q at HVx e1
      generalize (l.votedSg 4 (lo + (i : Int)) 3) = sg at HVx
      have E0 := Lib.hid e0
      have E1 := Lib.hid e1
      clear e0 e1
      go_upto_region 12 with (first
        | (go_at_call 25; (with_reducible refine (HPx.out).mono ?_); rintro e w3 ⟨rfl, hh⟩; have H3 := Lib.hid hh; clear hh; have B3 := Lib.hid (hB.out.below H3.out hB.out.lt); have x0 : w3.cell? ⟨gh, i, none⟩ = some (.bool false) := (by rw [B3.out.cell, List.getElem?_toArray, bools_at _ _ _ (by omega), if_neg (by omega)]); have f0 := B3.out.frozen i))
      have B4 : Hid (Blk (w3.setCell ⟨gh, i, none⟩ (.bool p)) gh 51 (bools (hadF l) 9 (i + 1)).toArray) := Lib.hid (by rw [← bools_put (hadF l) 9 i hlt, E0.out]; exact B3.out.set_ i (.bool p))
      have C4 : Hid (Blk (w3.setCell ⟨gh, i, none⟩ (.bool p)) (gh + 1) 51 (bools (votedF l) 9 i).toArray) := Lib.hid ((hC.out.below H3.out hC.out.lt).far (by omega) _)
      have hb4 : Hid (Below w2.heap.size w2 (w3.setCell ⟨gh, i, none⟩ (.bool p))) := Lib.hid ((below_next hb.out H3.out).setCell (by rw [HGH.out]; exact Nat.le_refl _) _)
      clear x0 f0
      generalize World.setCell w3 _ _ = w4 at B4 C4 hb4 ⊢
      go_wp2_with (first
        | (go_at_call 26; (with_reducible refine (HVx.out _ hb4.out).mono ?_); rintro e w5 ⟨rfl, hh⟩; have H5 := Lib.hid hh; clear hh; have C5 := Lib.hid (C4.out.below H5.out C4.out.lt); have x1 : w5.cell? ⟨gh + 1, i, none⟩ = some (.bool false) := (by rw [C5.out.cell, List.getElem?_toArray, bools_at _ _ _ (by omega), if_neg (by omega)]); have f1 := C5.out.frozen i))
      go_roundg (10 - (i + 1))
      case measure => omega
      case rel =>
        refine ⟨i + 1, rfl, by omega, by go_num, Lib.hid ?_, Lib.hid ?_, Lib.hid ?_⟩
        · exact (B4.out.below H5.out B4.out.lt).far (by omega) _
        · rw [← bools_put (votedF l) 9 i hlt, E1.out]; exact C5.out.set_ i (.bool q)
        · exact (below_next hb4.out H5.out).setCell (by rw [HGH.out]; exact Nat.le_succ _) _
    · obtain rfl : i = 9 := by omega
      clear hlt hi
      have HC := Lib.hid ((H2.out.next hb.out).cut_ seq)
      have HBad := Lib.hid (fun h => Vl.cut_bad (l := l) (seq := seq) h)
      have HEq : Hid (∀ h1 h2 h3, (l.cut seq).2 = 0 ∧ (l.cut seq).1.low = seq) := Lib.hid (fun h1 h2 h3 => by rw [Vl.cut_eq (l := l) (seq := seq) h1 h2 h3]; exact ⟨rfl, rfl⟩)
      have HCp := Lib.hid (fun h1 h2 h3 i hi => Vl.cut_proposal (l := l) (seq := seq) h1 h2 h3 (i := i) hi)
      have HCv := Lib.hid (fun h1 h2 h3 i hi => Vl.cut_voted (l := l) (seq := seq) h1 h2 h3 (i := i) hi 4 3)
      have HCk := Lib.hid (fun h1 h2 h3 => Vl.cut_kept (l := l) HI.out (seq := seq) h1 h2 h3)
      rw [hlo.out] at HBad HEq HCp HCv HCk
      have HBr := Lib.hid (H2.out.next hb.out)
      by_cases g1 : seq ≤ lo
      · have E := Lib.hid (HBad.out (.inl g1))
        unfold TurnedG at HC
        rw [E.out] at HC
        have HL2 := Lib.hid (fun wx (h : Vw w wx g l) => h.low)
        rw [hlo.out] at HL2
        go_wp2_with (first
          | (go_at_call 27; (refine (HC.out).mono ?_); rintro e w6 ⟨rfl, h6, -⟩; have H6 := Lib.hid h6; clear h6)
          | (go_at_call 20; (with_reducible refine (HL2.out _ H6.out).mono ?_); rintro e w7 ⟨rfl, rfl⟩)
          | (go_at_call 14; (with_reducible refine (HA.out _).mono ?_); rintro e w8 ⟨rfl, ha⟩; have HA8 := Lib.hid ha; clear ha))
        go_ret
        exact ⟨rfl, below_next H6.out.all HA8.out⟩
      · by_cases g2 : 1073741824 < seq
        · have E := Lib.hid (HBad.out (.inr (.inl g2)))
          unfold TurnedG at HC
          rw [E.out] at HC
          have HL2 := Lib.hid (fun wx (h : Vw w wx g l) => h.low)
          rw [hlo.out] at HL2
          go_wp2_with (first
            | (go_at_call 27; (refine (HC.out).mono ?_); rintro e w6 ⟨rfl, h6, -⟩; have H6 := Lib.hid h6; clear h6)
            | (go_at_call 20; (with_reducible refine (HL2.out _ H6.out).mono ?_); rintro e w7 ⟨rfl, rfl⟩)
            | (go_at_call 14; (with_reducible refine (HA.out _).mono ?_); rintro e w8 ⟨rfl, ha⟩; have HA8 := Lib.hid ha; clear ha))
          go_ret
          exact ⟨rfl, below_next H6.out.all HA8.out⟩
        · have e0 : seq.tmod 4 = seq % 4 := Int.tmod_eq_emod_of_nonneg (by omega)
          obtain ⟨r, hr⟩ : ∃ r, seq % 4 = r := ⟨_, rfl⟩
          rw [hr] at e0 HBad HEq HCp HCv HCk
          clear hr
          by_cases g3 : r = 0
          · subst g3
            have q1 : lo < seq := by omega
            have q2 : seq ≤ 1073741824 := by omega
            have E := Lib.hid (HEq.out q1 q2 rfl)
            have Ep := Lib.hid (HCp.out q1 q2 rfl)
            have Ev := Lib.hid (HCv.out q1 q2 rfl)
            have Ek := Lib.hid (HCk.out q1 q2 rfl)
            clear HBad HEq HCp HCv HCk
            unfold TurnedG at HC
            rw [E.out.1] at HC
            obtain ⟨l2, hl2⟩ : ∃ l2, Hid ((l.cut seq).1 = l2) := ⟨_, Lib.hid rfl⟩
            have hl2low : Hid (l2.low = seq) := Lib.hid (by rw [← hl2.out]; exact E.out.2)
            rw [hl2.out] at HC Ep Ev Ek
            have HL2 := Lib.hid (fun wx (h : Vw w wx g l2) => h.low)
            rw [hl2low.out] at HL2
            go_upto_region 19 with (first
              | (go_at_call 27; (refine (HC.out).mono ?_); rintro e w6 ⟨rfl, h6, ho6⟩; have H6 := Lib.hid h6; have O6 := Lib.hid ho6; clear h6 ho6)
              | (go_at_call 20; (with_reducible refine (HL2.out _ H6.out).mono ?_); rintro e w7 ⟨rfl, rfl⟩))
            have B6 := Lib.hid (hB.out.only O6.out fun e => by have := hgg.out; have e' : gh = g := e; omega)
            have C6 := Lib.hid (hC.out.only O6.out fun e => by have := hgg.out; have e' : gh + 1 = g := e; omega)
            have K6 := Lib.hid ((HK2.out.below hb.out).only O6.out fun b hb => by rw [hb]; exact H1.out.lt)
            clear HC hB hC HBr hb
            go_wp2
            go_loopg [15] 10 (fun gk s15 wr => ∃ i : Nat, gk = 10 - i ∧ i ≤ 9 ∧ s15 = .int .i64 (i : Int) ∧ Hid (Below w6.heap.size w6 wr))
            case atStart => exact ⟨0, rfl, Nat.zero_le _, rfl, Lib.hid (Below.refl _ _)⟩
            case round =>
              obtain ⟨i, rfl, hi, rfl, hb⟩ := hrel
              have i0 : (0 : Int) ≤ (i : Int) := by omega
              by_cases hlt : i < 9
              · have hltI : (i : Int) < 9 := by omega
                have hltI8 : (i : Int) ≤ 8 := by omega
                have HPx := Lib.hid (HP.out wr g l2 (H6.out.next hb.out) (lo + (i : Int)))
                have HVx := Lib.hid (fun wx (hh : Below wr.heap.size wr wx) => HV.out wx g l2 ((H6.out.next hb.out).next hh) (lo + (i : Int)))
                have e0 := HF0.out i
                have e1 := HF1.out i
                have e2 := Ep.out i (by omega)
                have e3 := Ev.out i (by omega)
                unfold TellsVote at HVx
                have hB0 := B6.out.below hb.out B6.out.lt
                have hC0 := C6.out.below hb.out C6.out.lt
                have hXB : Hid (∀ wx, Below wr.heap.size wr wx → wx.cell? ⟨gh, i, none⟩ = some (.bool (hadF l i)) ∧ wx.cell? ⟨gh + 1, i, none⟩ = some (.bool (votedF l i))) := Lib.hid fun wx hh => ⟨by rw [(hB0.below hh hB0.lt).cell, List.getElem?_toArray, bools_at _ _ _ (by omega), if_pos hlt], by rw [(hC0.below hh hC0.lt).cell, List.getElem?_toArray, bools_at _ _ _ (by omega), if_pos hlt]⟩
                rw [e0, e1] at hXB
                clear hB0 hC0
                generalize (l.proposal (lo + (i : Int))).2.2 = p at e0 e2 hXB
                generalize (l.voted 4 (lo + (i : Int)) 3).isSome = q at e1 e3 hXB
                rw [e2] at HPx
                rw [e3] at HVx
                clear e0 e1 e2 e3
                generalize (l2.proposal (lo + (i : Int))).1 = p1 at HPx
                generalize (l2.proposal (lo + (i : Int))).2.1 = p2 at HPx
                generalize (l2.votedSg 4 (lo + (i : Int)) 3) = sg at HVx
                by_cases hab : seq < lo + (i : Int)
                · rw [decide_eq_true hab, Bool.and_true] at HPx HVx
                  cases p <;> cases q <;>
                  ·
                    go_upto_region 24 with (first
                      | (go_at_call 25; (with_reducible refine (HPx.out).mono ?_); rintro e w3 ⟨rfl, hh⟩; have H3 := Lib.hid hh; clear hh)
                      | (go_at_call 26; (with_reducible refine (HVx.out _ H3.out).mono ?_); rintro e w5 ⟨rfl, hh⟩; have H5 := Lib.hid (below_next H3.out hh); clear hh))
                    have H7 : Hid (Below wr.heap.size wr (w5.alloc (.cells #[.int .i64 sg.frm, .string sg.body, .string sg.sig] 48))) := Lib.hid (H5.out.alloc H5.out.size _)
                    obtain ⟨x0, x1⟩ := hXB.out _ H7.out
                    go_wp2
                    go_roundg (10 - (i + 1))
                    case measure => omega
                    case rel => exact ⟨i + 1, rfl, by omega, by go_num, Lib.hid (below_next hb.out H7.out)⟩
                · rw [decide_eq_false hab, Bool.and_false] at HPx HVx
                  have habB : decide (seq < lo + (i : Int)) = false := decide_eq_false hab
                  cases p <;> cases q <;>
                  ·
                    go_upto_region 24 with (first
                      | (go_at_call 25; (with_reducible refine (HPx.out).mono ?_); rintro e w3 ⟨rfl, hh⟩; have H3 := Lib.hid hh; clear hh)
                      | (go_at_call 26; (with_reducible refine (HVx.out _ H3.out).mono ?_); rintro e w5 ⟨rfl, hh⟩; have H5 := Lib.hid (below_next H3.out hh); clear hh))
                    have H7 : Hid (Below wr.heap.size wr (w5.alloc (.cells #[.int .i64 sg.frm, .string sg.body, .string sg.sig] 48))) := Lib.hid (H5.out.alloc H5.out.size _)
                    obtain ⟨x0, x1⟩ := hXB.out _ H7.out
                    go_wp2
                    go_roundg (10 - (i + 1))
                    case measure => omega
                    case rel => exact ⟨i + 1, rfl, by omega, by go_num, Lib.hid (below_next hb.out H7.out)⟩
              · obtain rfl : i = 9 := by omega
                clear hlt hi
                have H8 := Lib.hid (H6.out.next hb.out)
                have K8 := Lib.hid (K6.out.below hb.out)
                clear H6 K6 B6 C6 hb
                go_wp2
                go_loopg [22, 23] (m + 1) (fun gk s22 s23 wx => ∃ i : Nat, gk = m + 1 - i ∧ i ≤ m ∧ s22 = .int .i64 (((l.kept.take i).countP (fun b => decide (seq < b.seq)) : Nat) : Int) ∧ s23 = .int .i64 (i : Int) ∧ wx = wr)
                case atStart => exact ⟨0, rfl, Nat.zero_le _, rfl, rfl, rfl⟩
                case round =>
                  obtain ⟨i, rfl, hi, rfl, rfl, rfl⟩ := hrel
                  have i0 : (0 : Int) ≤ (i : Int) := by omega
                  by_cases hlt : i < m
                  · have hltI : (i : Int) < (m : Int) := by omega
                    have hil : i < l.kept.length := by rw [hm.out]; exact hlt
                    have hm8 : m ≤ 8 := by rw [← hm.out]; exact Vl.keptN_le l 8
                    have hsn := Lib.hid (count_snoc l.kept (fun b => decide (seq < b.seq)) hil Kb.none)
                    obtain ⟨b, o, bl, ol, cl, rfl, -, -, -, -, -, -, -, k2, -, -, -, -⟩ := K8.out.at_ (i := i) hil
                    have hcl : (l.kept.take i).countP (fun b => decide (seq < b.seq)) ≤ i := Nat.le_trans List.countP_le_length (List.length_take_le _ _)
                    obtain ⟨cn, hcn⟩ : ∃ cn, Hid ((l.kept.take i).countP (fun b => decide (seq < b.seq)) = cn) := ⟨_, Lib.hid rfl⟩
                    rw [hcn.out] at hcl hsn ⊢
                    generalize (l.kept.getD i Kb.none).seq = ks at k2 hsn
                    clear hil
                    by_cases hab : seq < ks
                    · have E2 : Hid ((l.kept.take (i + 1)).countP (fun b => decide (seq < b.seq)) = cn + 1) := Lib.hid (by rw [hsn.out, if_pos (decide_eq_true hab)])
                      go_wp2
                      go_roundg (m + 1 - (i + 1))
                      case measure => omega
                      case rel => exact ⟨i + 1, rfl, by omega, by rw [E2.out]; go_num, by go_num, rfl⟩
                    · have E2 : Hid ((l.kept.take (i + 1)).countP (fun b => decide (seq < b.seq)) = cn) := Lib.hid (by rw [hsn.out, if_neg (by simpa using hab), Nat.add_zero])
                      go_wp2
                      go_roundg (m + 1 - (i + 1))
                      case measure => omega
                      case rel => exact ⟨i + 1, rfl, by omega, by rw [E2.out], by go_num, rfl⟩
                  · obtain rfl : i = m := by omega
                    have E2 : Hid ((l.kept.take i).countP (fun b => decide (seq < b.seq)) = l2.kept.length) := Lib.hid (by rw [Ek.out, List.take_of_length_le (by rw [hm.out]; exact Nat.le_refl _)])
                    rw [E2.out]
                    have HK9 := Lib.hid (H8.out.kept)
                    generalize l2.kept.length = m2 at HK9 ⊢
                    clear hlt hi E2
                    go_wp2_with (first
                      | (go_at_call 22; (refine (HK9.out).mono ?_); rintro e w9 ⟨A2, c2, rfl, -, hb⟩; have H9 := Lib.hid (H8.out.next hb); clear hb)
                      | (go_at_call 14; (with_reducible refine (HA.out _).mono ?_); rintro e w8 ⟨rfl, ha⟩; have HA8 := Lib.hid ha; clear ha))
                    go_ret
                    exact ⟨rfl, below_next H9.out.all HA8.out⟩
          · have E := Lib.hid (HBad.out (.inr (.inr g3)))
            have h4 : (r != 0) = true := by simpa using g3
            unfold TurnedG at HC
            rw [E.out] at HC
            have HL2 := Lib.hid (fun wx (h : Vw w wx g l) => h.low)
            rw [hlo.out] at HL2
            go_wp2_with (first
              | (go_at_call 27; (refine (HC.out).mono ?_); rintro e w6 ⟨rfl, h6, -⟩; have H6 := Lib.hid h6; clear h6)
              | (go_at_call 20; (with_reducible refine (HL2.out _ H6.out).mono ?_); rintro e w7 ⟨rfl, rfl⟩)
              | (go_at_call 14; (with_reducible refine (HA.out _).mono ?_); rintro e w8 ⟨rfl, ha⟩; have HA8 := Lib.hid ha; clear ha))
            go_ret
            exact ⟨rfl, below_next H6.out.all HA8.out⟩
end Go.Proofs.Ytedndjbhgbdpoaa
