/- Plain facts of ClockSells: what the acts keep, and what a sale gives. -/
import Derived.Test.YtccmafmeblojpaaActs
import Derived.Test.YtccmafmeblojpaaShLaw
import Derived.Test.YtccmafmeblojpaaClockRisesW
namespace Go.Proofs.Ytccmafmeblojpaa
open Go.RowKit
structure Auc.Inv (a : Auc) (s : Int) (i : Nat) : Prop where
  supply : a.supply = s
  start : a.start = 10
  step : a.step = 3
  round : a.round ≤ i + 1
  state : a.state = 0 ∨ a.state = 1
  len : a.l.length = 4
theorem Auc.Inv.bid {a : Auc} {s : Int} {i : Nat} (h : a.Inv s i) (who n : Int) : (a.bid who n).1.Inv s (i + 1) := by
  have hr := h.round
  unfold Auc.bid
  split
  · exact ⟨h.supply, h.start, h.step, by show a.round ≤ _; push_cast; omega, h.state, h.len⟩
  split
  · exact ⟨h.supply, h.start, h.step, by show a.round ≤ _; push_cast; omega, h.state, h.len⟩
  split
  · exact ⟨h.supply, h.start, h.step, by show a.round ≤ _; push_cast; omega, h.state, h.len⟩
  · exact ⟨h.supply, h.start, h.step, by show a.round ≤ _; push_cast; omega, h.state, by show (a.l.set _ _).length = 4; rw [List.length_set]; exact h.len⟩
theorem Auc.Inv.next {a : Auc} {s : Int} {i : Nat} (h : a.Inv s i) (hi : i ≤ 100) : a.next.1.Inv s (i + 1) := by
  have hr := h.round
  have hst := h.step
  have hsa := h.start
  unfold Auc.next
  split
  · exact ⟨h.supply, h.start, h.step, by show a.round ≤ _; push_cast; omega, h.state, h.len⟩
  split
  · exact ⟨h.supply, h.start, h.step, by show a.round ≤ _; push_cast; omega, .inr rfl, h.len⟩
  split
  · rename_i hp
    unfold Auc.price at hp
    rw [hst, hsa] at hp
    omega
  · exact ⟨h.supply, h.start, h.step, by show a.round + 1 ≤ _; push_cast; omega, h.state, by show (a.l.map _).length = 4; rw [List.length_map]; exact h.len⟩
theorem Auc.four_inv (s : Int) (Z : Nat → Int) : ∀ i, i ≤ 100 → ((Auc.four s).acts Z i).Inv (1 + (arnd s 300 : Int)) i
  | 0, _ => ⟨rfl, rfl, rfl, by show (1 : Int) ≤ _; omega, .inl rfl, rfl⟩
  | i + 1, hi => by
    have ih := Auc.four_inv s Z i (by omega)
    rw [Auc.acts]
    unfold Auc.act
    split
    · exact ih.next (by omega)
    · exact ih.bid _ _
/-- What a sale of a sold auction gives. -/
theorem Auc.sale_one {a : Auc} (hok : a.Ok) (hf : a.Fair) (h1 : a.state = 1) :
    a.sale.2.2 = 0 ∧ a.sale.2.1.length = a.l.length ∧
      ((a.sale.1 = a.price ∧ a.sale.2.1 = a.nowl ∧ (a.round = 1 ∧ a.demand ≤ a.supply ∨ 1 < a.round ∧ a.demand = a.supply)) ∨
       (a.sale.1 = a.price - a.step ∧ 1 < a.round ∧ a.demand < a.supply ∧ a.sale.2.1.sum = a.supply ∧ ∀ i, i < a.l.length → (a.l.getD i (0, 0)).2 ≤ a.sale.2.1.getD i 0 ∧ a.sale.2.1.getD i 0 ≤ (a.l.getD i (0, 0)).1)) := by
  have hr := hok.round
  have hs := hf.sold h1
  have hgl : a.gaps.length = a.l.length := by simp [Auc.gaps]
  have hnl : a.nowl.length = a.l.length := by simp [Auc.nowl]
  by_cases hq : a.round = 1 ∨ a.supply - a.demand = 0
  · have E : a.sale = (a.price, a.nowl, 0) := by unfold Auc.sale; rw [if_neg (by omega), if_neg (by omega), if_pos hq]
    rw [E]
    refine ⟨rfl, hnl, .inl ⟨rfl, rfl, ?_⟩⟩
    by_cases hr1 : a.round = 1
    · exact .inl ⟨hr1, hs⟩
    · exact .inr ⟨by omega, by omega⟩
  · have hr1 : ¬ a.round = 1 := fun h => hq (.inl h)
    have hl1 : ¬ a.supply - a.demand = 0 := fun h => hq (.inr h)
    have hr2 : 1 < a.round := by omega
    have E : a.sale = (a.price - a.step, List.zipWith (· + ·) a.nowl (Sh.shares (a.supply - a.demand) a.gaps), 0) := by unfold Auc.sale; rw [if_neg (by omega), if_neg (by omega), if_neg hq]
    have hsl : (Sh.shares (a.supply - a.demand) a.gaps).length = a.l.length := by rw [Sh.shares_length, hgl]
    have hg0 : ∀ g ∈ a.gaps, 0 ≤ g ∧ g ≤ 1048576 := fun x hx => by
      unfold Auc.gaps at hx
      obtain ⟨p, hp, rfl⟩ := List.mem_map.1 hx
      have h2 := hok.each p hp
      have h3 := hf.fall hr2 p hp
      omega
    have hgs : a.gaps.sum = Auc.wases a.l - Auc.nows a.l := Auc.gaps_sum a.l
    have hmo := hf.more hr2
    have hde : a.demand = Auc.nows a.l := rfl
    have hn0 : 0 ≤ a.supply - a.demand := by omega
    have hS : 0 < a.gaps.sum := by omega
    have hnS : a.supply - a.demand ≤ a.gaps.sum := by omega
    have hsum := Sh.shares_sum hn0 (fun g hg => (hg0 g hg).1) hS hnS
    rw [E]
    refine ⟨rfl, by rw [List.length_zipWith, hnl, hsl]; omega, .inr ⟨rfl, hr2, by omega, ?_, fun i hi => ?_⟩⟩
    · have hz : ∀ (x y : List Int), x.length = y.length → (List.zipWith (· + ·) x y).sum = x.sum + y.sum := by
        intro x
        induction x with
        | nil => intro y hy; cases y <;> simp_all
        | cons a x ih =>
          intro y hy
          cases y with
          | nil => simp at hy
          | cons b y =>
            have := ih y (by simpa using hy)
            simp only [List.zipWith_cons_cons, List.sum_cons, this]
            omega
      show (List.zipWith (· + ·) a.nowl (Sh.shares (a.supply - a.demand) a.gaps)).sum = a.supply
      rw [hz _ _ (by rw [hnl, hsl]), hsum]
      show a.demand + (a.supply - a.demand) = a.supply
      omega
    · have hel := Sh.shares_el (n := a.supply - a.demand) ⟨hn0, by have := hok.supply; have := (Auc.nows_bound hok.each).1; omega⟩ hg0 (by rw [hgl]; exact hok.len.2) i
      have hle := Sh.shares_le hn0 (fun g hg => (hg0 g hg).1) hS hnS i
      rw [Auc.gaps_at a hi] at hle
      have hv : (List.zipWith (· + ·) a.nowl (Sh.shares (a.supply - a.demand) a.gaps)).getD i 0 = (a.l.getD i (0, 0)).2 + (Sh.shares (a.supply - a.demand) a.gaps).getD i 0 := by
        rw [← Auc.nowl_at a hi]
        rw [List.getD_eq_getElem?_getD (l := List.zipWith _ _ _), List.getElem?_zipWith, List.getD_eq_getElem?_getD, List.getD_eq_getElem?_getD]
        rw [List.getElem?_eq_getElem (l := a.nowl) (by rw [hnl]; exact hi), List.getElem?_eq_getElem (l := Sh.shares (a.supply - a.demand) a.gaps) (by rw [hsl]; exact hi)]
        rfl
      show (a.l.getD i (0, 0)).2 ≤ (List.zipWith (· + ·) a.nowl (Sh.shares (a.supply - a.demand) a.gaps)).getD i 0 ∧ (List.zipWith (· + ·) a.nowl (Sh.shares (a.supply - a.demand) a.gaps)).getD i 0 ≤ (a.l.getD i (0, 0)).1
      rw [hv]
      omega
end Go.Proofs.Ytccmafmeblojpaa
