/- The contract of Voted. -/
import Derived.Test.YtedndjbhgbdpoaaCut
namespace Go.Proofs.Ytedndjbhgbdpoaa
open Go.RowKit
def Sg.none : Sg := ⟨0, noText, noText⟩
def Vl.votedSg (l : Vl) (kind seq frm : Int) : Sg := (l.voted kind seq frm).getD Sg.none
def TellsVote (l : Vl) (kind seq frm : Int) (w : World) (e : Ending) (w' : World) : Prop :=
  e = .returned (.tuple #[.agg #[.int .i64 (l.votedSg kind seq frm).frm, .string (l.votedSg kind seq frm).body, .string (l.votedSg kind seq frm).sig], .bool (l.voted kind seq frm).isSome]) ∧ Below w.heap.size w w'
theorem tellsVote {l : Vl} {kind seq frm : Int} {w w' : World} {o : Option Sg} (h : l.voted kind seq frm = o) (hb : Below w.heap.size w w') (a : Int) (b c : ByteArray) (d : Bool) (h1 : o.getD Sg.none = ⟨a, b, c⟩) (h2 : o.isSome = d) :
    TellsVote l kind seq frm w (.returned (.tuple #[.agg #[.int .i64 a, .string b, .string c], .bool d])) w' := by
  unfold TellsVote Vl.votedSg
  rw [h, h1, h2]
  exact ⟨rfl, hb⟩
section
variable {w : World} {g gm : Nat} {gv : Nat → Nat → Option Nat} {kv : Nat → Value} {l : Vl}
theorem voted_off (h : AtV w g gm gv kv l) (kind seq frm : Int) (hno : (kind ≠ 3 ∧ kind ≠ 4) ∨ ¬ l.within seq) :
    Calls Try.prog 26 #[.pointer (some ⟨g, 0, none⟩), .int .i64 kind, .int .i64 seq, .int .i64 frm] w (TellsVote l kind seq frm w) := by
  have E : Hid (l.voted kind seq frm = none) := Lib.hid (by unfold Vl.voted; rw [if_pos hno])
  have HW := Lib.hid (fun wx (hx : AtV wx g gm gv kv l) => within_calls hx seq)
  have HA := Lib.hid (h.below ((Below.refl _ _).alloc (Nat.le_refl _) (.cells #[.int .i64 0, .string ⟨#[]⟩, .string ⟨#[]⟩] 48)))
  clear h
  by_cases h3 : kind = 3
  · subst h3
    rw [decide_eq_false (hno.elim (fun hh => absurd rfl hh.1) id)] at HW
    clear hno
    go_enter Try.func26, Try.ntmps26
    go_wp2_with (first
      | (go_at_call 34; (with_reducible refine (HW.out _ HA.out).mono ?_); rintro e w1 ⟨rfl, rfl⟩))
    (try simp only [Exit.inBlock, Exit.then])
    refine bodyPost_ret (by simp [results, Try.results26, asAddr, go_sem]; rfl) rfl ?_
    exact tellsVote E.out ((Below.refl _ _).alloc (Nat.le_refl _) _) _ _ _ _ rfl rfl
  · by_cases h4 : kind = 4
    · subst h4
      rw [decide_eq_false (hno.elim (fun hh => absurd rfl hh.2) id)] at HW
      clear hno h3
      go_enter Try.func26, Try.ntmps26
      go_wp2_with (first
        | (go_at_call 34; (with_reducible refine (HW.out _ HA.out).mono ?_); rintro e w1 ⟨rfl, rfl⟩))
      (try simp only [Exit.inBlock, Exit.then])
      refine bodyPost_ret (by simp [results, Try.results26, asAddr, go_sem]; rfl) rfl ?_
      exact tellsVote E.out ((Below.refl _ _).alloc (Nat.le_refl _) _) _ _ _ _ rfl rfl
    · have b3 : (kind != 3) = true := by simpa using h3
      have b4 : (kind != 4) = true := by simpa using h4
      clear hno h3 h4
      go_enter Try.func26, Try.ntmps26
      go_wp2
      (try simp only [Exit.inBlock, Exit.then])
      refine bodyPost_ret (by simp [results, Try.results26, asAddr, go_sem]; rfl) rfl ?_
      exact tellsVote E.out ((Below.refl _ _).alloc (Nat.le_refl _) _) _ _ _ _ rfl rfl
theorem voted_in3 (h : AtV w g gm gv kv l) (seq frm : Int) (hfr : (Lit.int .i64 frm).wf = true) (hin : l.within seq) :
    Calls Try.prog 26 #[.pointer (some ⟨g, 0, none⟩), .int .i64 3, .int .i64 seq, .int .i64 frm] w (TellsVote l 3 seq frm w) := by
  have HW := Lib.hid (fun wx (hx : AtV wx g gm gv kv l) => within_calls hx seq)
  rw [decide_eq_true hin] at HW
  obtain ⟨s0, s1⟩ := Vl.within_ix h.ok hin
  have HS := Lib.hid (fun w => at_calls w g seq s0)
  have hk8 := ix_lt seq
  have E : Hid (l.voted 3 seq frm = ((l.slots (ix seq)).votes 0 frm).map (·.m)) := Lib.hid (by unfold Vl.voted Vl.slot; rw [if_neg (by intro hh; rcases hh with hh | hh; exact hh.1 rfl; exact hh hin)]; rfl)
  have HA := Lib.hid (h.below ((Below.refl _ _).alloc (Nat.le_refl _) (.cells #[.int .i64 0, .string ⟨#[]⟩, .string ⟨#[]⟩] 48)))
  clear hin h
  generalize ix seq = k at HS hk8 E
  obtain ⟨ov, hov⟩ : ∃ ov, Hid ((l.slots k).votes 0 frm = ov) := ⟨_, Lib.hid rfl⟩
  rw [hov.out] at E
  have hlk := HA.out.look (k := k) (j := 0) hk8 (by omega) frm hfr
  rw [hov.out] at hlk
  have v0 : World.cell? _ ⟨g, 3 + k * 13 + 3, none⟩ = _ := HA.out.field (k := k) (j := 3) hk8 (by omega)
  simp only [slotCell] at v0
  clear hov
  cases ov with
  | none =>
    simp only [Option.getD_none, Vt.zero, Vt.val, Option.isSome_none] at hlk
    go_enter Try.func26, Try.ntmps26
    go_wp2_with (first
      | (go_at_call 34; (with_reducible refine (HW.out _ HA.out).mono ?_); rintro e w1 ⟨rfl, rfl⟩)
      | (go_at_call 35; (with_reducible refine (HS.out _).mono ?_); rintro e w1 ⟨rfl, rfl⟩))
    (try simp only [Exit.inBlock, Exit.then])
    refine bodyPost_ret (by simp [results, Try.results26, asAddr, go_sem]; rfl) rfl ?_
    exact tellsVote E.out (by repeat (first | exact Below.refl _ _ | (refine Below.setCell ?_ ?_ _; rotate_left; (try simp); rotate_left) | (refine Below.alloc ?_ (by simp) _))) _ _ _ _ rfl rfl
  | some v =>
    obtain ⟨⟨fr, bo, si⟩, dd⟩ := v
    simp only [Option.getD_some, Vt.val, Option.isSome_some] at hlk
    go_enter Try.func26, Try.ntmps26
    go_wp2_with (first
      | (go_at_call 34; (with_reducible refine (HW.out _ HA.out).mono ?_); rintro e w1 ⟨rfl, rfl⟩)
      | (go_at_call 35; (with_reducible refine (HS.out _).mono ?_); rintro e w1 ⟨rfl, rfl⟩))
    (try simp only [Exit.inBlock, Exit.then])
    refine bodyPost_ret (by simp [results, Try.results26, asAddr, go_sem]; rfl) rfl ?_
    exact tellsVote E.out (by repeat (first | exact Below.refl _ _ | (refine Below.setCell ?_ ?_ _; rotate_left; (try simp); rotate_left) | (refine Below.alloc ?_ (by simp) _))) _ _ _ _ rfl rfl
theorem voted_in4 (h : AtV w g gm gv kv l) (seq frm : Int) (hfr : (Lit.int .i64 frm).wf = true) (hin : l.within seq) :
    Calls Try.prog 26 #[.pointer (some ⟨g, 0, none⟩), .int .i64 4, .int .i64 seq, .int .i64 frm] w (TellsVote l 4 seq frm w) := by
  have HW := Lib.hid (fun wx (hx : AtV wx g gm gv kv l) => within_calls hx seq)
  rw [decide_eq_true hin] at HW
  obtain ⟨s0, s1⟩ := Vl.within_ix h.ok hin
  have HS := Lib.hid (fun w => at_calls w g seq s0)
  have hk8 := ix_lt seq
  have E : Hid (l.voted 4 seq frm = ((l.slots (ix seq)).votes 1 frm).map (·.m)) := Lib.hid (by unfold Vl.voted Vl.slot; rw [if_neg (by intro hh; rcases hh with hh | hh; exact hh.2 rfl; exact hh hin)]; rfl)
  have HA := Lib.hid (h.below ((Below.refl _ _).alloc (Nat.le_refl _) (.cells #[.int .i64 0, .string ⟨#[]⟩, .string ⟨#[]⟩] 48)))
  clear hin h
  generalize ix seq = k at HS hk8 E
  obtain ⟨ov, hov⟩ : ∃ ov, Hid ((l.slots k).votes 1 frm = ov) := ⟨_, Lib.hid rfl⟩
  rw [hov.out] at E
  have hlk := HA.out.look (k := k) (j := 1) hk8 (by omega) frm hfr
  rw [hov.out] at hlk
  have v0 : World.cell? _ ⟨g, 3 + k * 13 + 3 + 1, none⟩ = _ := HA.out.field (k := k) (j := 3 + 1) hk8 (by omega)
  simp only [slotCell] at v0
  clear hov
  cases ov with
  | none =>
    simp only [Option.getD_none, Vt.zero, Vt.val, Option.isSome_none] at hlk
    go_enter Try.func26, Try.ntmps26
    go_wp2_with (first
      | (go_at_call 34; (with_reducible refine (HW.out _ HA.out).mono ?_); rintro e w1 ⟨rfl, rfl⟩)
      | (go_at_call 35; (with_reducible refine (HS.out _).mono ?_); rintro e w1 ⟨rfl, rfl⟩))
    (try simp only [Exit.inBlock, Exit.then])
    refine bodyPost_ret (by simp [results, Try.results26, asAddr, go_sem]; rfl) rfl ?_
    exact tellsVote E.out (by repeat (first | exact Below.refl _ _ | (refine Below.setCell ?_ ?_ _; rotate_left; (try simp); rotate_left) | (refine Below.alloc ?_ (by simp) _))) _ _ _ _ rfl rfl
  | some v =>
    obtain ⟨⟨fr, bo, si⟩, dd⟩ := v
    simp only [Option.getD_some, Vt.val, Option.isSome_some] at hlk
    go_enter Try.func26, Try.ntmps26
    go_wp2_with (first
      | (go_at_call 34; (with_reducible refine (HW.out _ HA.out).mono ?_); rintro e w1 ⟨rfl, rfl⟩)
      | (go_at_call 35; (with_reducible refine (HS.out _).mono ?_); rintro e w1 ⟨rfl, rfl⟩))
    (try simp only [Exit.inBlock, Exit.then])
    refine bodyPost_ret (by simp [results, Try.results26, asAddr, go_sem]; rfl) rfl ?_
    exact tellsVote E.out (by repeat (first | exact Below.refl _ _ | (refine Below.setCell ?_ ?_ _; rotate_left; (try simp); rotate_left) | (refine Below.alloc ?_ (by simp) _))) _ _ _ _ rfl rfl
end
end Go.Proofs.Ytedndjbhgbdpoaa
