/- A clock auction as plain numbers. -/
namespace Go.Proofs.Ytccmafmeblojpaa
/-- An auction: supply, start, step, round, state, and each bidder's demand in the round ahead and in this one. -/
structure Auc where
  supply : Int
  start : Int
  step : Int
  round : Int
  state : Int
  l : List (Int × Int)
namespace Auc
def nows (l : List (Int × Int)) : Int := (l.map (·.2)).sum
def demand (a : Auc) : Int := nows a.l
def price (a : Auc) : Int := a.start + (a.round - 1) * a.step
/-- What may stand. -/
structure Ok (a : Auc) : Prop where
  supply : 1 ≤ a.supply ∧ a.supply ≤ 1048576
  start : 0 ≤ a.start ∧ a.start ≤ 1099511627776
  step : 1 ≤ a.step ∧ a.step ≤ 1099511627776
  round : 1 ≤ a.round
  price : a.price ≤ 1099511627776
  state : a.state = 0 ∨ a.state = 1 ∨ a.state = 2
  len : 1 ≤ a.l.length ∧ a.l.length ≤ 16
  each : ∀ p ∈ a.l, 0 ≤ p.1 ∧ p.1 ≤ 1048576 ∧ 0 ≤ p.2 ∧ p.2 ≤ 1048576
theorem nows_append (l m : List (Int × Int)) : nows (l ++ m) = nows l + nows m := by simp [nows]
theorem nows_bound {l : List (Int × Int)} (h : ∀ p ∈ l, 0 ≤ p.1 ∧ p.1 ≤ 1048576 ∧ 0 ≤ p.2 ∧ p.2 ≤ 1048576) : 0 ≤ nows l ∧ nows l ≤ 1048576 * l.length := by
  induction l with
  | nil => simp [nows]
  | cons p l ih =>
    have h1 := h p (List.mem_cons_self ..)
    have h2 := ih fun q hq => h q (List.mem_cons_of_mem _ hq)
    have e : nows (p :: l) = p.2 + nows l := by simp [nows]
    rw [e, List.length_cons]
    push_cast
    omega
theorem Ok.lap {a : Auc} (h : a.Ok) : 0 ≤ (a.round - 1) * a.step ∧ a.round - 1 ≤ 1099511627776 ∧ (a.round - 1) * a.step ≤ 1099511627776 := by
  have h1 := h.round
  have h2 := h.step.1
  have h3 := h.price
  have h4 := h.start.1
  unfold Auc.price at h3
  have h5 : 0 ≤ (a.round - 1) * a.step := Int.mul_nonneg (by omega) (by omega)
  have h6 : a.round - 1 ≤ (a.round - 1) * a.step := by
    have := Int.mul_le_mul_of_nonneg_left h2 (show 0 ≤ a.round - 1 by omega)
    omega
  omega
def bid (a : Auc) (who n : Int) : Auc × Int :=
  if a.state ≠ 0 then (a, 70)
  else if who < 0 ∨ who ≥ a.l.length ∨ n < 0 ∨ n > 1048576 then (a, 1)
  else if a.round > 1 ∧ n > (a.l.getD who.toNat (0, 0)).1 then (a, 71)
  else ({ a with l := a.l.set who.toNat ((a.l.getD who.toNat (0, 0)).1, n) }, 0)
def next (a : Auc) : Auc × Bool × Int :=
  if a.state ≠ 0 then (a, false, 70)
  else if a.demand ≤ a.supply then ({ a with state := 1 }, true, 0)
  else if a.price > 1099511627776 - a.step then ({ a with state := 2 }, true, 0)
  else ({ a with round := a.round + 1, l := a.l.map fun p => (p.2, p.2) }, false, 0)
theorem Ok.bid {a : Auc} (h : a.Ok) (who n : Int) : (a.bid who n).1.Ok := by
  unfold Auc.bid
  split
  · exact h
  split
  · exact h
  split
  · exact h
  · rename_i h1 h2 h3
    refine ⟨h.supply, h.start, h.step, h.round, h.price, h.state, by simpa using h.len, fun p hp => ?_⟩
    rcases List.mem_or_eq_of_mem_set hp with hp | rfl
    · exact h.each p hp
    · have hlt : who.toNat < a.l.length := by omega
      have := h.each (a.l.getD who.toNat (0, 0)) (by
        rw [List.getD_eq_getElem?_getD, List.getElem?_eq_getElem hlt]; exact List.getElem_mem hlt)
      exact ⟨this.1, this.2.1, by omega, by omega⟩
theorem Ok.next {a : Auc} (h : a.Ok) : a.next.1.Ok := by
  unfold Auc.next
  split
  · exact h
  split
  · exact ⟨h.supply, h.start, h.step, h.round, h.price, .inr (.inl rfl), h.len, h.each⟩
  split
  · exact ⟨h.supply, h.start, h.step, h.round, h.price, .inr (.inr rfl), h.len, h.each⟩
  · rename_i h1 h2 h3
    have h4 := h.round
    refine ⟨h.supply, h.start, h.step, by show 1 ≤ a.round + 1; omega, ?_, h.state, by simpa using h.len, fun p hp => ?_⟩
    · unfold Auc.price at h3 ⊢
      show a.start + (a.round + 1 - 1) * a.step ≤ _
      rw [show a.round + 1 - 1 = (a.round - 1) + 1 from by omega, Int.add_mul, Int.one_mul]
      omega
    · obtain ⟨q, hq, rfl⟩ := List.mem_map.1 hp
      have := h.each q hq
      exact ⟨this.2.2.1, this.2.2.2, this.2.2.1, this.2.2.2⟩
end Auc
end Go.Proofs.Ytccmafmeblojpaa
