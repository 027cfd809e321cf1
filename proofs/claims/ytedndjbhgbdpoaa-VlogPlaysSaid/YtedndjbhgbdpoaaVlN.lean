/- What calls leave as it is: how many there are. -/
import Derived.Test.YtedndjbhgbdpoaaBegun
namespace Go.Proofs.Ytedndjbhgbdpoaa
open Go.RowKit
theorem Vw.drewN {w0 w : World} {g : Nat} {l : Vl} (h : Vw w0 w g l) (n : Nat) : Vw w0 (w.drewN n) g l := h.next (below_draw (Below.refl _ _) n)
namespace Vl
theorem keep_n (l : Vl) (seq : Int) : (l.keep seq).n = l.n := by unfold keep; split <;> rfl
theorem act_n (l : Vl) (a : VAct) : (l.act a).1.n = l.n := by
  unfold act
  split
  · unfold enter; split <;> rfl
  split
  · unfold propose; split; rfl; split; rfl; split; exact keep_n _ _; split <;> rfl
  split
  · unfold vote; split; rfl; split; rfl; split; (split <;> rfl); exact keep_n _ _
  split
  · unfold vote; split; rfl; split; rfl; split; (split <;> rfl); exact keep_n _ _
  split
  · unfold check; split; rfl; split; rfl; simp only; split; rfl; split <;> rfl
  · unfold cut; split <;> rfl
theorem acts_n (l : Vl) (Z : Nat → VAct) (i : Nat) : (l.acts Z i).n = l.n := by
  induction i with
  | zero => rfl
  | succ i ih => exact (act_n _ _).trans ih
theorem seven_n (Z : Nat → VAct) (i : Nat) : (seven.acts Z i).n = 7 := acts_n seven Z i
/-- Is it out of the view or the window? -/
def outB (l : Vl) (view seq : Int) : Bool := decide (view ≠ l.view ∨ seq ≤ l.low ∨ l.low + 8 < seq)
theorem outB_iff (l : Vl) (view seq : Int) : l.outB view seq = true ↔ (view ≠ l.view ∨ ¬ l.within seq) := by
  unfold outB within
  rw [decide_eq_true_iff]
  constructor
  · rintro (h | h)
    · exact .inl h
    · exact .inr (by omega)
  · rintro (h | h)
    · exact .inl h
    · exact .inr (by omega)
theorem act_out1 {l : Vl} {a : VAct} (hk : arnd a.kind 6 = 1) (ho : l.outB a.view a.seq = true) : l.act a = (l, if a.d = noText then 1 else 100) := by
  have h := (outB_iff _ _ _).1 ho
  unfold act
  rw [if_neg (by omega), if_pos hk]
  unfold propose
  by_cases hd : a.d = noText
  · rw [if_pos hd, if_pos hd]
  · rw [if_neg hd, if_pos h, if_neg hd]
theorem act_out2 {l : Vl} {a : VAct} (hn : l.n = 7) (hk : arnd a.kind 6 = 2 ∨ arnd a.kind 6 = 3) : ((a.frm < 0 ∨ 6 < a.frm) → l.act a = (l, 1)) ∧ (¬ (a.frm < 0 ∨ 6 < a.frm) → l.outB a.view a.seq = true → l.act a = (l, 100)) := by
  have e : ∃ kk, l.act a = l.vote (sOf a) kk a.view a.seq a.d ∧ (kk = 3 ∨ kk = 4) := by
    unfold act
    rcases hk with hk | hk
    · rw [if_neg (by omega), if_neg (by omega), if_pos hk]; exact ⟨3, rfl, .inl rfl⟩
    · rw [if_neg (by omega), if_neg (by omega), if_neg (by omega), if_pos hk]; exact ⟨4, rfl, .inr rfl⟩
  obtain ⟨kk, e1, e2⟩ := e
  rw [e1]
  unfold vote
  have hs : (sOf a).frm = a.frm := rfl
  rw [hs, hn]
  constructor
  · intro h
    rw [if_pos (by omega)]
  · intro h ho
    have h1 : ¬ (a.frm < 0 ∨ 7 ≤ a.frm ∨ (kk ≠ 3 ∧ kk ≠ 4)) := by omega
    have h2 := (outB_iff _ _ _).1 ho
    rw [if_neg h1, if_pos h2]
end Vl
end Go.Proofs.Ytedndjbhgbdpoaa
