/- Orders and what is traded at a price, in plain. -/
namespace Go.Proofs.Ytilbhnloelgpdaa
structure Ord where
  id : Int
  owner : Int
  price : Int
  amount : Int
  place : Int
  buys : Bool
namespace Ord
/-- May an order be? -/
def right (o : Ord) : Bool := decide (0 ≤ o.id ∧ o.id ≤ 9007199254740992 ∧ 0 ≤ o.owner ∧ o.owner ≤ 15 ∧ 0 ≤ o.price ∧ o.price ≤ 1099511627776 ∧ 1 ≤ o.amount ∧ o.amount ≤ 1048576)
theorem right_iff (o : Ord) : o.right = true ↔ 0 ≤ o.id ∧ o.id ≤ 9007199254740992 ∧ 0 ≤ o.owner ∧ o.owner ≤ 15 ∧ 0 ≤ o.price ∧ o.price ≤ 1099511627776 ∧ 1 ≤ o.amount ∧ o.amount ≤ 1048576 := by simp [right]
end Ord
namespace Ca
/-- The orders that may be; none, if there are too many. -/
def rights (l : List Ord) : List Ord := if 64 < l.length then [] else l.filter Ord.right
def bought (l : List Ord) (p : Int) : Int := ((l.filter fun o => o.buys && decide (p ≤ o.price)).map (·.amount)).sum
def sold (l : List Ord) (p : Int) : Int := ((l.filter fun o => !o.buys && decide (o.price ≤ p)).map (·.amount)).sum
def traded (l : List Ord) (p : Int) : Int := min (bought l p) (sold l p)
def crossStep (l : List Ord) (acc : Int × Int) (o : Ord) : Int × Int :=
  if acc.2 < traded l o.price ∨ traded l o.price = acc.2 ∧ 0 < traded l o.price ∧ o.price < acc.1 then (o.price, traded l o.price) else acc
def crossOf (l : List Ord) : Int × Int := l.foldl (crossStep l) (0, 0)
def cross (l : List Ord) : Int × Int := crossOf (rights l)
theorem bought_cons (o : Ord) (l : List Ord) (p : Int) : bought (o :: l) p = (if o.buys = true ∧ p ≤ o.price then o.amount else 0) + bought l p := by
  unfold bought
  by_cases h1 : o.buys = true <;> by_cases h2 : p ≤ o.price <;> simp [h1, h2]
theorem sold_cons (o : Ord) (l : List Ord) (p : Int) : sold (o :: l) p = (if o.buys = false ∧ o.price ≤ p then o.amount else 0) + sold l p := by
  unfold sold
  by_cases h1 : o.buys = true <;> by_cases h2 : o.price ≤ p <;> simp [h1, h2]
theorem bought_nonneg {l : List Ord} (h : ∀ o ∈ l, 1 ≤ o.amount) (p : Int) : 0 ≤ bought l p := by
  induction l with
  | nil => simp [bought]
  | cons o l ih =>
    rw [bought_cons]
    have h1 := h o (List.mem_cons_self ..)
    have h2 := ih fun q hq => h q (List.mem_cons_of_mem _ hq)
    split <;> omega
theorem sold_nonneg {l : List Ord} (h : ∀ o ∈ l, 1 ≤ o.amount) (p : Int) : 0 ≤ sold l p := by
  induction l with
  | nil => simp [sold]
  | cons o l ih =>
    rw [sold_cons]
    have h1 := h o (List.mem_cons_self ..)
    have h2 := ih fun q hq => h q (List.mem_cons_of_mem _ hq)
    split <;> omega
theorem bought_bound {l : List Ord} (h : ∀ o ∈ l, 1 ≤ o.amount ∧ o.amount ≤ 1048576) (p : Int) : bought l p ≤ 1048576 * l.length := by
  induction l with
  | nil => simp [bought]
  | cons o l ih =>
    rw [bought_cons, List.length_cons]
    have h1 := h o (List.mem_cons_self ..)
    have h2 := ih fun q hq => h q (List.mem_cons_of_mem _ hq)
    push_cast
    split <;> omega
theorem sold_bound {l : List Ord} (h : ∀ o ∈ l, 1 ≤ o.amount ∧ o.amount ≤ 1048576) (p : Int) : sold l p ≤ 1048576 * l.length := by
  induction l with
  | nil => simp [sold]
  | cons o l ih =>
    rw [sold_cons, List.length_cons]
    have h1 := h o (List.mem_cons_self ..)
    have h2 := ih fun q hq => h q (List.mem_cons_of_mem _ hq)
    push_cast
    split <;> omega
/-- Bought falls with the price, sold rises. -/
theorem bought_falls {l : List Ord} (h : ∀ o ∈ l, 1 ≤ o.amount) {p q : Int} (hpq : p ≤ q) : bought l q ≤ bought l p := by
  induction l with
  | nil => simp [bought]
  | cons o l ih =>
    rw [bought_cons, bought_cons]
    have h1 := h o (List.mem_cons_self ..)
    have h2 := ih fun q hq => h q (List.mem_cons_of_mem _ hq)
    by_cases hb : o.buys = true
    · by_cases h3 : q ≤ o.price
      · rw [if_pos ⟨hb, h3⟩, if_pos ⟨hb, by omega⟩]; omega
      · rw [if_neg fun hh => h3 hh.2]
        split <;> omega
    · rw [if_neg fun hh => hb hh.1, if_neg fun hh => hb hh.1]; omega
theorem sold_rises {l : List Ord} (h : ∀ o ∈ l, 1 ≤ o.amount) {p q : Int} (hpq : p ≤ q) : sold l p ≤ sold l q := by
  induction l with
  | nil => simp [sold]
  | cons o l ih =>
    rw [sold_cons, sold_cons]
    have h1 := h o (List.mem_cons_self ..)
    have h2 := ih fun q hq => h q (List.mem_cons_of_mem _ hq)
    by_cases hb : o.buys = false
    · by_cases h3 : o.price ≤ p
      · rw [if_pos ⟨hb, h3⟩, if_pos ⟨hb, by omega⟩]; omega
      · rw [if_neg fun hh => h3 hh.2]
        split <;> omega
    · rw [if_neg fun hh => hb hh.1, if_neg fun hh => hb hh.1]; omega
theorem traded_nonneg {l : List Ord} (h : ∀ o ∈ l, 1 ≤ o.amount) (p : Int) : 0 ≤ traded l p := by
  have h1 := bought_nonneg h p
  have h2 := sold_nonneg h p
  unfold traded
  omega
/-- Where nothing is sold below a price no order sells there. -/
theorem sold_some {l : List Ord} (h : ∀ o ∈ l, 1 ≤ o.amount) {p : Int} (hp : 0 < sold l p) : ∃ o ∈ l, o.price ≤ p ∧ sold l p = sold l o.price := by
  -- the highest seller's price not above p
  induction l with
  | nil => simp [sold] at hp
  | cons o l ih =>
    have hl := fun q hq => h q (List.mem_cons_of_mem o hq)
    by_cases hs : o.buys = false ∧ o.price ≤ p
    · by_cases hz : 0 < sold l p
      · obtain ⟨q, hq1, hq2, hq3⟩ := ih hl hz
        by_cases hoq : o.price ≤ q.price
        · refine ⟨q, List.mem_cons_of_mem _ hq1, hq2, ?_⟩
          rw [sold_cons, sold_cons, if_pos hs, if_pos ⟨hs.1, hoq⟩, hq3]
        · refine ⟨o, List.mem_cons_self .., hs.2, ?_⟩
          rw [sold_cons, sold_cons, if_pos hs, if_pos ⟨hs.1, Int.le_refl _⟩]
          have h1 := sold_rises (l := l) hl (show q.price ≤ o.price by omega)
          have h2 := sold_rises (l := l) hl hs.2
          omega
      · refine ⟨o, List.mem_cons_self .., hs.2, ?_⟩
        rw [sold_cons, sold_cons, if_pos hs, if_pos ⟨hs.1, Int.le_refl _⟩]
        have h1 := sold_nonneg hl p
        have h2 := sold_nonneg hl o.price
        have h3 := sold_rises (l := l) hl hs.2
        omega
    · rw [sold_cons, if_neg hs] at hp
      obtain ⟨q, hq1, hq2, hq3⟩ := ih hl (by omega)
      refine ⟨q, List.mem_cons_of_mem _ hq1, hq2, ?_⟩
      rw [sold_cons, sold_cons, if_neg hs, hq3, if_neg fun hh => hs ⟨hh.1, by omega⟩]
/-- At whatever price: an order's own price trades as much, and is not above it. -/
theorem traded_own {l : List Ord} (h : ∀ o ∈ l, 1 ≤ o.amount) {p : Int} (hp : 0 < traded l p) : ∃ o ∈ l, o.price ≤ p ∧ traded l p ≤ traded l o.price := by
  have h0 : 0 < sold l p := by unfold traded at hp; omega
  obtain ⟨o, h1, h2, h3⟩ := sold_some h h0
  refine ⟨o, h1, h2, ?_⟩
  have := bought_falls h h2
  unfold traded
  omega
end Ca
end Go.Proofs.Ytilbhnloelgpdaa
