/- The contract of Cut. -/
import Derived.Test.YtedndjbhgbdpoaaCheck
namespace Go.Proofs.Ytedndjbhgbdpoaa
open Go.RowKit
namespace Vl
theorem wiped_step (l : Vl) (i : Nat) : (l.wiped i).put (ix (l.low + 1 + (i : Int))) Slot.none = l.wiped (i + 1) := by
  unfold wiped put
  simp only
  congr 1
  funext k
  rw [List.range_succ, List.any_append]
  simp only [List.any_cons, List.any_nil, Bool.or_false]
  by_cases e : k = ix (l.low + 1 + (i : Int))
  · rw [if_pos e]
    have : (ix (l.low + 1 + (i : Int)) == k) = true := by simp [e]
    rw [this, Bool.or_true, if_pos rfl]
  · rw [if_neg e]
    have : (ix (l.low + 1 + (i : Int)) == k) = false := by simpa using fun e2 => e e2.symm
    rw [this, Bool.or_false]
theorem wiped_zero (l : Vl) : l.wiped 0 = l := by
  unfold wiped
  simp
theorem wiped_ok {l : Vl} (h : l.Ok) (i : Nat) : (l.wiped i).Ok := by
  refine ⟨h.n, h.view, h.low, fun k j x hv => ?_, h.marks, fun k => ?_⟩
  · unfold wiped at hv
    simp only at hv
    split at hv
    · exact absurd rfl hv
    · exact h.votes k j x hv
  · unfold wiped
    simp only
    split
    · exact .inl ⟨rfl, rfl⟩
    · exact h.kept k
end Vl
set_option maxHeartbeats 8000000 in
set_option maxRecDepth 100000 in
theorem cut_calls {w : World} {g gm : Nat} {gv : Nat → Nat → Option Nat} {kv : Nat → Value} {l : Vl} (h : AtV w g gm gv kv l) (seq : Int) :
    Calls Try.prog 27 #[.pointer (some ⟨g, 0, none⟩), .int .i64 seq] w fun e w' => e = .returned (.int .i64 (l.cut seq).2) ∧ VoteTo w w' g gm gv (l.cut seq).1 ∧ Only (fun x => x = g) w w' := by
  have H := Lib.hid h
  obtain ⟨-, -, c2, -⟩ := h.head
  have hlow := h.ok.low
  have hsame : Hid (∀ c, l.cut seq = (l, c) → VoteTo w w g gm gv (l.cut seq).1 ∧ Only (fun x => x = g) w w) := Lib.hid fun c e => ⟨⟨gv, kv, by rw [e]; exact H.out, fun _ _ _ _ _ h => .inl h⟩, Only.refl _ _⟩
  obtain ⟨lo, hlo⟩ : ∃ lo, Hid (l.low = lo) := ⟨_, Lib.hid rfl⟩
  have HC : Hid (l.cut seq = if seq ≤ lo ∨ 1073741824 < seq ∨ seq % 4 ≠ 0 then (l, 1) else ({ l.wiped (min 8 (seq - lo).toNat) with low := seq }, 0)) := Lib.hid (by unfold Vl.cut; rw [← hlo.out])
  rw [hlo.out] at c2 hlow
  obtain ⟨hlow0, hlow1⟩ := hlow
  by_cases h1 : seq ≤ lo
  · have E : Hid (l.cut seq = (l, 1)) := Lib.hid (by rw [HC.out, if_pos (.inl h1)])
    rw [E.out] at hsame
    clear h
    go_enter Try.func27, Try.ntmps27
    go_wp2
    go_ret
    rw [E.out]
    exact ⟨rfl, hsame.out 1 rfl⟩
  · by_cases h2 : 1073741824 < seq
    · have E : Hid (l.cut seq = (l, 1)) := Lib.hid (by rw [HC.out, if_pos (.inr (.inl h2))])
      rw [E.out] at hsame
      clear h
      go_enter Try.func27, Try.ntmps27
      go_wp2
      go_ret
      rw [E.out]
      exact ⟨rfl, hsame.out 1 rfl⟩
    · have e0 : seq.tmod 4 = seq % 4 := Int.tmod_eq_emod_of_nonneg (by omega)
      obtain ⟨r, hr⟩ : ∃ r, seq % 4 = r := ⟨_, rfl⟩
      rw [hr] at e0 HC
      clear hr
      by_cases h3 : r = 0
      · have E : Hid (l.cut seq = ({ l.wiped (min 8 (seq - lo).toNat) with low := seq }, 0)) := Lib.hid (by rw [HC.out, if_neg (by omega)])
        subst h3
        obtain ⟨n, hn⟩ : ∃ n, min 8 (seq - lo).toNat = n := ⟨_, rfl⟩
        rw [hn] at E
        have hn8 : n ≤ 8 := by omega
        have hnle : (n : Int) ≤ seq - lo := by omega
        have hnge : n = 8 ∨ (n : Int) = seq - lo := by omega
        have HOk := Lib.hid (fun i => Vl.wiped_ok h.ok i)
        have HS : Hid (∀ i : Nat, (l.wiped i).put (ix (lo + 1 + (i : Int))) Slot.none = l.wiped (i + 1)) := Lib.hid fun i => by rw [← hlo.out]; exact l.wiped_step i
        have HA := Lib.hid (fun w s h => at_calls w g s h)
        have hz := zero_slot
        have HSz : Hid ((Try.prog.info? 77).map (·.size) = some 13) := Lib.hid (by kernel_rfl)
        have H0 : Hid (AtV w g gm gv kv (l.wiped 0)) := Lib.hid (by rw [l.wiped_zero]; exact h)
        have HLow : Hid (∀ i, (l.wiped i).low = lo) := Lib.hid fun i => hlo.out
        clear hn HC hsame h
        go_enter Try.func27, Try.ntmps27
        go_wp2
        clear c2 e0
        go_loopg [5] 9 (fun gk s5 wr => ∃ i gv' kv', gk = 9 - i ∧ i ≤ n ∧ s5 = .int .i64 (lo + 1 + (i : Int)) ∧ Hid (AtV wr g gm gv' kv' (l.wiped i)) ∧ Hid (Wider w gv gv') ∧ Hid (Only (fun x => x = g) w wr))
        case atStart => exact ⟨0, gv, kv, rfl, Nat.zero_le _, by simp, H0, Lib.hid fun _ _ _ _ _ h => .inl h, Lib.hid (Only.refl _ _)⟩
        case round =>
          clear H0
          obtain ⟨i, gv', kv', rfl, hi, rfl, hA, hW, hO⟩ := hrel
          have i0 : (0 : Int) ≤ (i : Int) := by omega
          have c2 : wr.cell? ⟨g, 2, none⟩ = some (.int .i64 lo) := by rw [← HLow.out i]; exact hA.out.head.2.2.1
          by_cases hlt : i < n
          · have g1 : lo + 1 + (i : Int) ≤ seq := by omega
            have g2 : lo + 1 + (i : Int) ≤ lo + 8 := by omega
            have g3 : lo + 1 + (i : Int) ≤ min seq (lo + 8) := by omega
            have HAi := Lib.hid (fun w => HA.out w (lo + 1 + (i : Int)) (by omega))
            have HSi := Lib.hid (HS.out i)
            have hk8 := ix_lt (lo + 1 + (i : Int))
            generalize ix (lo + 1 + (i : Int)) = k at HAi HSi hk8
            have hth : Hid (wr.there g (3 + k * 13) 13) := Lib.hid fun j hj => by
              have e := hA.out.field (k := k) (j := j) hk8 hj
              exact ⟨by rw [e]; rfl, hA.out.blk.frozen _⟩
            have hput := AtV.slotPut hA.out (k := k) (o := 0) hk8 [.bool false, .string ⟨#[]⟩, .string ⟨#[]⟩, .map none, .map none, .int .i64 0, .int .i64 0, .int .i64 0, .int .i64 0, .int .i64 0, .string ⟨#[]⟩, .string ⟨#[]⟩, .slice none 0 0] (by simp) Slot.none (fun _ => none) (.slice none 0 0)
              (fun j hj => by
                simp only [List.length_cons, List.length_nil] at hj
                rcases (show j = 0 ∨ j = 1 ∨ j = 2 ∨ j = 3 ∨ j = 4 ∨ j = 5 ∨ j = 6 ∨ j = 7 ∨ j = 8 ∨ j = 9 ∨ j = 10 ∨ j = 11 ∨ j = 12 by omega) with rfl | rfl | rfl | rfl | rfl | rfl | rfl | rfl | rfl | rfl | rfl | rfl | rfl <;> rfl)
              (fun j hj hj2 => by simp only [List.length_cons, List.length_nil] at hj2; omega)
              (fun j _ => .inr (.inl ⟨rfl, fun _ => rfl⟩)) (.inl ⟨rfl, rfl⟩) (by rw [HSi.out]; exact HOk.out (i + 1))
            rw [HSi.out] at hput
            have hA2 := Lib.hid hput
            have hW2 : Hid (Wider w gv (fun x => if x = k then (fun _ => none) else gv' x)) := Lib.hid fun k' j b hk' hj hb => by
              by_cases e : k' = k
              · simp only [if_pos e] at hb
                cases hb
              · simp only [if_neg e] at hb
                exact hW.out k' j b hk' hj hb
            have hO2 := Lib.hid (hO.out.trans (only_setCells wr g (3 + k * 13) [.bool false, .string ⟨#[]⟩, .string ⟨#[]⟩, .map none, .map none, .int .i64 0, .int .i64 0, .int .i64 0, .int .i64 0, .int .i64 0, .string ⟨#[]⟩, .string ⟨#[]⟩, .slice none 0 0]) fun b hb => .inl hb)
            clear hput hA hW hO
            go_wp2_with (first
              | (go_at_call 35; (with_reducible refine (HAi.out _).mono ?_); rintro e w1 ⟨rfl, rfl⟩)
              | ((refine wpList_store_mid (op := ⟨none, _, _, _, _, _⟩) ?_ 77 (.tmp 47) (.tmp 46) ?_ g (3 + k * 13) #[.bool false, .string ⟨#[]⟩, .string ⟨#[]⟩, .map none, .map none, .int .i64 0, .int .i64 0, .int .i64 0, .int .i64 0, .int .i64 0, .string ⟨#[]⟩, .string ⟨#[]⟩, .slice none 0 0] ?_ ?_ hth.out HSz.out ?_ ?_); (exact rfl); (exact rfl); (exact rfl); (exact rfl); (simp [Value.oneCell'])))
            all_goals
              go_roundg (9 - (i + 1))
              case measure => omega
              case rel => exact ⟨i + 1, _, _, rfl, by omega, by go_num, hA2, hW2, hO2⟩
          · obtain rfl : i = n := by omega
            have g3 : ¬ lo + 1 + (i : Int) ≤ min seq (lo + 8) := by omega
            have f2 := hA.out.blk.frozen 2
            have hA2 := Lib.hid (hA.out.setHead (.inr rfl) seq { l.wiped i with low := seq } (by simp) ⟨(HOk.out i).n, (HOk.out i).view, ⟨by show (0 : Int) ≤ seq; omega, by show seq ≤ 1073741824; omega⟩, (HOk.out i).votes, (HOk.out i).marks, (HOk.out i).kept⟩)
            have hO2 := Lib.hid ((hO.out).setCell (g := g) (j := 2) (.inl rfl) (.int .i64 seq))
            clear hA hO
            go_wp2
            all_goals
              go_ret
              rw [E.out]
              exact ⟨rfl, ⟨_, _, hA2.out, hW.out⟩, hO2.out⟩
      · have E : Hid (l.cut seq = (l, 1)) := Lib.hid (by rw [HC.out, if_pos (.inr (.inr h3))])
        have h4 : (r != 0) = true := by simpa using h3
        rw [E.out] at hsame
        clear h HC
        go_enter Try.func27, Try.ntmps27
        go_wp2
        go_ret
        rw [E.out]
        exact ⟨rfl, hsame.out 1 rfl⟩
end Go.Proofs.Ytedndjbhgbdpoaa
