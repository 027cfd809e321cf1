/- Orders and what is traded at a price, in plain. The price at which most is traded, in plain. Stable sorting, in plain: an order, what is sorted, what stands alike; there is one such list. Orders in memory: a row of orders; the list of orders that came in. right: may an order be? The program's and the reference's. The reference's Traded: what is traded at a price. The reference's Cross. slices.Clone at orders: a list of the call's own. rights' own function; slices.IndexFunc at it. slices.IndexFunc at orders and rights' own function. Cells laid over a row of the call's own; clear at elements of whatever size. slices.DeleteFunc at orders and rights' own function. rights: the orders that may be, in a list of its own. Cross's sums and its best, step by step (plain). The program's Cross. -/
import Derived.Test.YtilbhnloelgpdaaGMem
import Derived.Deep.Slices
import Derived.ChangeArms
import Derived.Test.YtilbhnloelgpdaaRows
import Derived.WalkKit
import Derived.WalkLawsBesides
import Derived.Lib.Hide
import Derived.Outline
import Derived.Deep.QuietTactic
import Derived.BigQuiet
import Derived.StillTailTactics
import Derived.Deep.Cut
import Derived.Deep.LoopGhost
import Derived.Deep.RegionHeld3
import Derived.Lib.SliceRun
import Derived.Laws.IdiomCopy
import Derived.Deep.MidRow
namespace Go.Proofs.Ytilbhnloelgpdaa
structure Ord where
  id : Int
  owner : Int
  price : Int
  amount : Int
  place : Int
  buys : Bool
namespace Ord
/-- May an order be? -/
def right (o : Ord) : Bool := decide (0 ≤ o.id ∧ o.id ≤ 9007199254740992 ∧ 0 ≤ o.owner ∧ o.owner ≤ 15 ∧ 0 ≤ o.price ∧ o.price ≤ 1099511627776 ∧ 1 ≤ o.amount ∧ o.amount ≤ 1048576)
theorem right_iff (o : Ord) : o.right = true ↔ 0 ≤ o.id ∧ o.id ≤ 9007199254740992 ∧ 0 ≤ o.owner ∧ o.owner ≤ 15 ∧ 0 ≤ o.price ∧ o.price ≤ 1099511627776 ∧ 1 ≤ o.amount ∧ o.amount ≤ 1048576 := by simp [right]
end Ord
namespace Ca
/-- The orders that may be; none, if there are too many. -/
def rights (l : List Ord) : List Ord := if 64 < l.length then [] else l.filter Ord.right
def bought (l : List Ord) (p : Int) : Int := ((l.filter fun o => o.buys && decide (p ≤ o.price)).map (·.amount)).sum
def sold (l : List Ord) (p : Int) : Int := ((l.filter fun o => !o.buys && decide (o.price ≤ p)).map (·.amount)).sum
def traded (l : List Ord) (p : Int) : Int := min (bought l p) (sold l p)
def crossStep (l : List Ord) (acc : Int × Int) (o : Ord) : Int × Int :=
  if acc.2 < traded l o.price ∨ traded l o.price = acc.2 ∧ 0 < traded l o.price ∧ o.price < acc.1 then (o.price, traded l o.price) else acc
def crossOf (l : List Ord) : Int × Int := l.foldl (crossStep l) (0, 0)
def cross (l : List Ord) : Int × Int := crossOf (rights l)
theorem bought_cons (o : Ord) (l : List Ord) (p : Int) : bought (o :: l) p = (if o.buys = true ∧ p ≤ o.price then o.amount else 0) + bought l p := by
  unfold bought
  by_cases h1 : o.buys = true <;> by_cases h2 : p ≤ o.price <;> simp [h1, h2]
theorem sold_cons (o : Ord) (l : List Ord) (p : Int) : sold (o :: l) p = (if o.buys = false ∧ o.price ≤ p then o.amount else 0) + sold l p := by
  unfold sold
  by_cases h1 : o.buys = true <;> by_cases h2 : o.price ≤ p <;> simp [h1, h2]
theorem bought_nonneg {l : List Ord} (h : ∀ o ∈ l, 1 ≤ o.amount) (p : Int) : 0 ≤ bought l p := by
  induction l with
  | nil => simp [bought]
  | cons o l ih =>
    rw [bought_cons]
    have h1 := h o (List.mem_cons_self ..)
    have h2 := ih fun q hq => h q (List.mem_cons_of_mem _ hq)
    split <;> omega
theorem sold_nonneg {l : List Ord} (h : ∀ o ∈ l, 1 ≤ o.amount) (p : Int) : 0 ≤ sold l p := by
  induction l with
  | nil => simp [sold]
  | cons o l ih =>
    rw [sold_cons]
    have h1 := h o (List.mem_cons_self ..)
    have h2 := ih fun q hq => h q (List.mem_cons_of_mem _ hq)
    split <;> omega
theorem bought_bound {l : List Ord} (h : ∀ o ∈ l, 1 ≤ o.amount ∧ o.amount ≤ 1048576) (p : Int) : bought l p ≤ 1048576 * l.length := by
  induction l with
  | nil => simp [bought]
  | cons o l ih =>
    rw [bought_cons, List.length_cons]
    have h1 := h o (List.mem_cons_self ..)
    have h2 := ih fun q hq => h q (List.mem_cons_of_mem _ hq)
    push_cast
    split <;> omega
theorem sold_bound {l : List Ord} (h : ∀ o ∈ l, 1 ≤ o.amount ∧ o.amount ≤ 1048576) (p : Int) : sold l p ≤ 1048576 * l.length := by
  induction l with
  | nil => simp [sold]
  | cons o l ih =>
    rw [sold_cons, List.length_cons]
    have h1 := h o (List.mem_cons_self ..)
    have h2 := ih fun q hq => h q (List.mem_cons_of_mem _ hq)
    push_cast
    split <;> omega
/-- Bought falls with the price, sold rises. -/
theorem bought_falls {l : List Ord} (h : ∀ o ∈ l, 1 ≤ o.amount) {p q : Int} (hpq : p ≤ q) : bought l q ≤ bought l p := by
  induction l with
  | nil => simp [bought]
  | cons o l ih =>
    rw [bought_cons, bought_cons]
    have h1 := h o (List.mem_cons_self ..)
    have h2 := ih fun q hq => h q (List.mem_cons_of_mem _ hq)
    by_cases hb : o.buys = true
    · by_cases h3 : q ≤ o.price
      · rw [if_pos ⟨hb, h3⟩, if_pos ⟨hb, by omega⟩]; omega
      · rw [if_neg fun hh => h3 hh.2]
        split <;> omega
    · rw [if_neg fun hh => hb hh.1, if_neg fun hh => hb hh.1]; omega
theorem sold_rises {l : List Ord} (h : ∀ o ∈ l, 1 ≤ o.amount) {p q : Int} (hpq : p ≤ q) : sold l p ≤ sold l q := by
  induction l with
  | nil => simp [sold]
  | cons o l ih =>
    rw [sold_cons, sold_cons]
    have h1 := h o (List.mem_cons_self ..)
    have h2 := ih fun q hq => h q (List.mem_cons_of_mem _ hq)
    by_cases hb : o.buys = false
    · by_cases h3 : o.price ≤ p
      · rw [if_pos ⟨hb, h3⟩, if_pos ⟨hb, by omega⟩]; omega
      · rw [if_neg fun hh => h3 hh.2]
        split <;> omega
    · rw [if_neg fun hh => hb hh.1, if_neg fun hh => hb hh.1]; omega
theorem traded_nonneg {l : List Ord} (h : ∀ o ∈ l, 1 ≤ o.amount) (p : Int) : 0 ≤ traded l p := by
  have h1 := bought_nonneg h p
  have h2 := sold_nonneg h p
  unfold traded
  omega
/-- Where nothing is sold below a price no order sells there. -/
theorem sold_some {l : List Ord} (h : ∀ o ∈ l, 1 ≤ o.amount) {p : Int} (hp : 0 < sold l p) : ∃ o ∈ l, o.price ≤ p ∧ sold l p = sold l o.price := by
  -- the highest seller's price not above p
  induction l with
  | nil => simp [sold] at hp
  | cons o l ih =>
    have hl := fun q hq => h q (List.mem_cons_of_mem o hq)
    by_cases hs : o.buys = false ∧ o.price ≤ p
    · by_cases hz : 0 < sold l p
      · obtain ⟨q, hq1, hq2, hq3⟩ := ih hl hz
        by_cases hoq : o.price ≤ q.price
        · refine ⟨q, List.mem_cons_of_mem _ hq1, hq2, ?_⟩
          rw [sold_cons, sold_cons, if_pos hs, if_pos ⟨hs.1, hoq⟩, hq3]
        · refine ⟨o, List.mem_cons_self .., hs.2, ?_⟩
          rw [sold_cons, sold_cons, if_pos hs, if_pos ⟨hs.1, Int.le_refl _⟩]
          have h1 := sold_rises (l := l) hl (show q.price ≤ o.price by omega)
          have h2 := sold_rises (l := l) hl hs.2
          omega
      · refine ⟨o, List.mem_cons_self .., hs.2, ?_⟩
        rw [sold_cons, sold_cons, if_pos hs, if_pos ⟨hs.1, Int.le_refl _⟩]
        have h1 := sold_nonneg hl p
        have h2 := sold_nonneg hl o.price
        have h3 := sold_rises (l := l) hl hs.2
        omega
    · rw [sold_cons, if_neg hs] at hp
      obtain ⟨q, hq1, hq2, hq3⟩ := ih hl (by omega)
      refine ⟨q, List.mem_cons_of_mem _ hq1, hq2, ?_⟩
      rw [sold_cons, sold_cons, if_neg hs, hq3, if_neg fun hh => hs ⟨hh.1, by omega⟩]
/-- At whatever price: an order's own price trades as much, and is not above it. -/
theorem traded_own {l : List Ord} (h : ∀ o ∈ l, 1 ≤ o.amount) {p : Int} (hp : 0 < traded l p) : ∃ o ∈ l, o.price ≤ p ∧ traded l p ≤ traded l o.price := by
  have h0 : 0 < sold l p := by unfold traded at hp; omega
  obtain ⟨o, h1, h2, h3⟩ := sold_some h h0
  refine ⟨o, h1, h2, ?_⟩
  have := bought_falls h h2
  unfold traded
  omega
end Ca
end Go.Proofs.Ytilbhnloelgpdaa
namespace Go.Proofs.Ytilbhnloelgpdaa
namespace Ca
/-- acc is the best of the prices of m, by what is traded among l. -/
structure Best (l m : List Ord) (acc : Int × Int) : Prop where
  most : ∀ o ∈ m, traded l o.price ≤ acc.2
  pos : 0 ≤ acc.2
  none : acc.2 = 0 → acc.1 = 0
  own : 0 < acc.2 → ∃ o ∈ m, o.price = acc.1 ∧ traded l o.price = acc.2
  low : 0 < acc.2 → ∀ o ∈ m, traded l o.price = acc.2 → acc.1 ≤ o.price
theorem Best.start (l : List Ord) : Best l [] (0, 0) := ⟨by simp, Int.le_refl _, fun _ => rfl, fun h => absurd h (by decide), fun h => absurd h (by decide)⟩
theorem Best.step {l m : List Ord} {acc : Int × Int} (h : Best l m acc) (o : Ord) : Best l (m ++ [o]) (crossStep l acc o) := by
  have h0 := h.pos
  unfold crossStep
  split
  · rename_i hc
    refine ⟨fun q hq => ?_, ?_, fun hz => ?_, fun _ => ⟨o, by simp, rfl, rfl⟩, fun hp q hq hqe => ?_⟩
    · show traded l q.price ≤ traded l o.price
      rcases List.mem_append.1 hq with hq | hq
      · have := h.most q hq; omega
      · rw [List.mem_singleton] at hq; rw [hq]; exact Int.le_refl _
    · show 0 ≤ traded l o.price
      omega
    · have hz' : traded l o.price = 0 := hz
      omega
    · have hqe' : traded l q.price = traded l o.price := hqe
      show o.price ≤ q.price
      rcases List.mem_append.1 hq with hq | hq
      · have h1 := h.most q hq
        rcases hc with hc | ⟨hc1, hc2, hc3⟩
        · omega
        · have := h.low (by omega) q hq (by omega)
          omega
      · rw [List.mem_singleton] at hq; rw [hq]; exact Int.le_refl _
  · rename_i hc
    refine ⟨fun q hq => ?_, h0, h.none, fun hp => ?_, fun hp q hq hqe => ?_⟩
    · rcases List.mem_append.1 hq with hq | hq
      · exact h.most q hq
      · rw [List.mem_singleton] at hq; rw [hq]; omega
    · obtain ⟨q, h1, h2, h3⟩ := h.own hp
      exact ⟨q, List.mem_append_left _ h1, h2, h3⟩
    · rcases List.mem_append.1 hq with hq | hq
      · exact h.low hp q hq hqe
      · rw [List.mem_singleton] at hq
        rw [hq] at hqe ⊢
        omega
theorem Best.fold (l : List Ord) : ∀ (rest m : List Ord) (acc : Int × Int), Best l m acc → Best l (m ++ rest) (rest.foldl (crossStep l) acc)
  | [], m, acc, h => by rw [List.append_nil]; exact h
  | o :: rest, m, acc, h => by
    have := Best.fold l rest (m ++ [o]) _ (h.step o)
    rw [List.append_assoc] at this
    exact this
theorem cross_best (l : List Ord) : Best l l (crossOf l) := Best.fold l l [] (0, 0) (Best.start l)
/-- There is one best. -/
theorem Best.one {l m : List Ord} {a b : Int × Int} (ha : Best l m a) (hb : Best l m b) : a = b := by
  have e2 : a.2 = b.2 := by
    have h1 := ha.pos
    have h2 := hb.pos
    rcases Int.lt_or_le a.2 b.2 with h | h
    · obtain ⟨o, h3, _, h4⟩ := hb.own (by omega)
      have := ha.most o h3; omega
    · rcases Int.lt_or_le b.2 a.2 with h' | h'
      · obtain ⟨o, h3, _, h4⟩ := ha.own (by omega)
        have := hb.most o h3; omega
      · omega
  have e1 : a.1 = b.1 := by
    by_cases hz : a.2 = 0
    · rw [ha.none hz, hb.none (by omega)]
    · have h1 := ha.pos
      obtain ⟨o, o1, o2, o3⟩ := ha.own (by omega)
      obtain ⟨q, q1, q2, q3⟩ := hb.own (by omega)
      have h2 := ha.low (by omega) q q1 (by omega)
      have h3 := hb.low (by omega) o o1 (by omega)
      omega
  exact Prod.ext e1 e2
/-- The same orders in another order: the same best. -/
theorem Best.turn {l l' m m' : List Ord} {a : Int × Int} (h : Best l m a) (ht : ∀ p, traded l' p = traded l p) (hm : ∀ o, o ∈ m' ↔ o ∈ m) : Best l' m' a :=
  ⟨fun o ho => by rw [ht]; exact h.most o ((hm o).1 ho), h.pos, h.none, fun hp => by
    obtain ⟨o, h1, h2, h3⟩ := h.own hp
    exact ⟨o, (hm o).2 h1, h2, by rw [ht]; exact h3⟩, fun hp o ho he => h.low hp o ((hm o).1 ho) (by rw [← ht]; exact he)⟩
theorem bought_append (l m : List Ord) (p : Int) : bought (l ++ m) p = bought l p + bought m p := by simp [bought]
theorem sold_append (l m : List Ord) (p : Int) : sold (l ++ m) p = sold l p + sold m p := by simp [sold]
theorem traded_reverse (l : List Ord) (p : Int) : traded l.reverse p = traded l p := by
  have hb : bought l.reverse p = bought l p := by
    induction l with
    | nil => rfl
    | cons o l ih =>
      have e : o :: l = [o] ++ l := rfl
      rw [List.reverse_cons, bought_append, ih, e, bought_append]; omega
  have hs : sold l.reverse p = sold l p := by
    induction l with
    | nil => rfl
    | cons o l ih =>
      have e : o :: l = [o] ++ l := rfl
      rw [List.reverse_cons, sold_append, ih (by
        have h := hb
        rw [List.reverse_cons, bought_append, e, bought_append] at h
        omega), e, sold_append]; omega
  unfold traded
  rw [hb, hs]
theorem rights_reverse (l : List Ord) : rights l.reverse = (rights l).reverse := by
  unfold rights
  rw [List.length_reverse]
  split
  · rfl
  · rw [List.filter_reverse]
/-- CallTurned's law. -/
theorem cross_reverse (l : List Ord) : cross l.reverse = cross l := by
  unfold cross
  rw [rights_reverse]
  exact (cross_best _).one ((cross_best (rights l)).turn (traded_reverse _) fun o => List.mem_reverse)
theorem rights_amount {l : List Ord} : ∀ o ∈ rights l, 1 ≤ o.amount ∧ o.amount ≤ 1048576 := fun o ho => by
  unfold rights at ho
  split at ho
  · simp at ho
  · have := (Ord.right_iff o).1 (List.mem_filter.1 ho).2
    omega
/-- CallMost's law: at no price more is traded, at each lower one less. -/
theorem cross_most (l : List Ord) (p : Int) : traded (rights l) p ≤ (cross l).2 := by
  have hB := cross_best (rights l)
  have ha : ∀ o ∈ rights l, 1 ≤ o.amount := fun o ho => (rights_amount o ho).1
  by_cases h : 0 < traded (rights l) p
  · obtain ⟨o, h1, _, h3⟩ := traded_own ha h
    exact Int.le_trans h3 (hB.most o h1)
  · have := hB.pos
    show _ ≤ (crossOf (rights l)).2
    omega
theorem cross_less (l : List Ord) (p : Int) (hn : 0 < (cross l).2) (hp : p < (cross l).1) : traded (rights l) p < (cross l).2 := by
  have hB := cross_best (rights l)
  have ha : ∀ o ∈ rights l, 1 ≤ o.amount := fun o ho => (rights_amount o ho).1
  rcases Int.lt_or_le (traded (rights l) p) (cross l).2 with h | h
  · exact h
  · obtain ⟨o, h1, h2, h3⟩ := traded_own ha (p := p) (by omega)
    have h4 : traded (rights l) o.price ≤ (crossOf (rights l)).2 := hB.most o h1
    have h5 : (cross l).2 = (crossOf (rights l)).2 := rfl
    have h6 : (crossOf (rights l)).1 ≤ o.price := hB.low (by omega) o h1 (by omega)
    have h7 : (cross l).1 = (crossOf (rights l)).1 := rfl
    omega
theorem cross_at (l : List Ord) (hn : 0 < (cross l).2) : traded (rights l) (cross l).1 = (cross l).2 := by
  obtain ⟨o, _, h2, h3⟩ := (cross_best (rights l)).own hn
  have h7 : (cross l).1 = (crossOf (rights l)).1 := rfl
  rw [h7, ← h2]; exact h3
theorem cross_zero (l : List Ord) : 0 < (cross l).2 ∨ (cross l).1 = 0 := by
  have hB := cross_best (rights l)
  by_cases h : (crossOf (rights l)).2 = 0
  · exact .inr (hB.none h)
  · have := hB.pos
    exact .inl (show 0 < (crossOf (rights l)).2 by omega)
end Ca
end Go.Proofs.Ytilbhnloelgpdaa
namespace Go.Proofs.Ytilbhnloelgpdaa
set_option linter.unusedVariables false
set_option linter.unusedSimpArgs false
section
variable {α : Type}
/-- A strict weak order. -/
structure Swo (lt : α → α → Bool) : Prop where
  irr : ∀ x, lt x x = false
  asym : ∀ x y, lt x y = true → lt y x = false
  neg : ∀ x y z, lt x z = true → lt x y = true ∨ lt y z = true
def Sortd (lt : α → α → Bool) (M : List α) : Prop := M.Pairwise fun x y => lt y x = false
def cls (lt : α → α → Bool) (x : α) (M : List α) : List α := M.filter fun y => !lt x y && !lt y x
/-- M' is M in an order in which none overtakes one as good. -/
structure Stab (lt : α → α → Bool) (M M' : List α) : Prop where
  alike : ∀ x, cls lt x M' = cls lt x M
  sorted : Sortd lt M'
  len : M'.length = M.length
variable {lt : α → α → Bool}
theorem Swo.le_trans (h : Swo lt) {x y z : α} (h1 : lt y x = false) (h2 : lt z y = false) : lt z x = false := by
  cases h3 : lt z x with
  | false => rfl
  | true =>
    rcases h.neg z y x h3 with h4 | h4
    · rw [h2] at h4; cases h4
    · rw [h1] at h4; cases h4
theorem Swo.lt_le (h : Swo lt) {x y z : α} (h1 : lt x y = true) (h2 : lt z y = false) : lt x z = true := by
  rcases h.neg x z y h1 with h4 | h4
  · exact h4
  · rw [h2] at h4; cases h4
theorem Swo.le_lt (h : Swo lt) {x y z : α} (h1 : lt y x = false) (h2 : lt y z = true) : lt x z = true := by
  rcases h.neg y x z h2 with h4 | h4
  · rw [h1] at h4; cases h4
  · exact h4
theorem cls_append (x : α) (M N : List α) : cls lt x (M ++ N) = cls lt x M ++ cls lt x N := by unfold cls; rw [List.filter_append]
theorem mem_cls {x y : α} {M : List α} : y ∈ cls lt x M ↔ y ∈ M ∧ lt x y = false ∧ lt y x = false := by unfold cls; simp [List.mem_filter]
theorem stab_one (h : Swo lt) : ∀ (M M' : List α), Sortd lt M → Sortd lt M' → (∀ x, cls lt x M' = cls lt x M) → M' = M
  | [], M', _, _, he => by
    cases M' with
    | nil => rfl
    | cons y t =>
      have := he y
      have hm : y ∈ cls lt y (y :: t) := mem_cls.2 ⟨List.mem_cons_self .., h.irr y, h.irr y⟩
      rw [this] at hm
      simp [cls] at hm
  | x :: s, M', hs, hs', he => by
    cases M' with
    | nil =>
      have hm : x ∈ cls lt x (x :: s) := mem_cls.2 ⟨List.mem_cons_self .., h.irr x, h.irr x⟩
      rw [← he x] at hm
      simp [cls] at hm
    | cons y t =>
      have hx : x ∈ y :: t := by
        have hm : x ∈ cls lt x (x :: s) := mem_cls.2 ⟨List.mem_cons_self .., h.irr x, h.irr x⟩
        rw [← he x] at hm
        exact (mem_cls.1 hm).1
      have hy : y ∈ x :: s := by
        have hm : y ∈ cls lt y (y :: t) := mem_cls.2 ⟨List.mem_cons_self .., h.irr y, h.irr y⟩
        rw [he y] at hm
        exact (mem_cls.1 hm).1
      have h1 : lt x y = false := by
        rcases List.mem_cons.1 hx with hx | hx
        · rw [hx]; exact h.irr y
        · exact (List.pairwise_cons.1 hs').1 x hx
      have h2 : lt y x = false := by
        rcases List.mem_cons.1 hy with hy | hy
        · rw [hy]; exact h.irr x
        · exact (List.pairwise_cons.1 hs).1 y hy
      have e := he x
      have e1 : cls lt x (x :: s) = x :: cls lt x s := by unfold cls; rw [List.filter_cons_of_pos (by simp [h.irr])]
      have e2 : cls lt x (y :: t) = y :: cls lt x t := by unfold cls; rw [List.filter_cons_of_pos (by simp [h1, h2])]
      rw [e1, e2] at e
      obtain ⟨rfl, _⟩ := List.cons.inj e
      have := stab_one h s t (List.pairwise_cons.1 hs).2 (List.pairwise_cons.1 hs').2 fun z => by
        have ez := he z
        unfold cls at ez ⊢
        rw [List.filter_cons, List.filter_cons] at ez
        split at ez
        · exact (List.cons.inj ez).2
        · exact ez
      rw [this]
theorem Stab.one (h : Swo lt) {M A B : List α} (ha : Stab lt M A) (hb : Stab lt M B) : A = B :=
  stab_one h B A hb.sorted ha.sorted fun x => by rw [ha.alike, hb.alike]
theorem Stab.refl {M : List α} (h : Sortd lt M) : Stab lt M M := ⟨fun _ => rfl, h, rfl⟩
theorem Stab.mem (h : Swo lt) {M M' : List α} (hs : Stab lt M M') (x : α) : x ∈ M' ↔ x ∈ M := by
  constructor
  · intro hx
    have : x ∈ cls lt x M' := mem_cls.2 ⟨hx, h.irr x, h.irr x⟩
    rw [hs.alike] at this
    exact (mem_cls.1 this).1
  · intro hx
    have : x ∈ cls lt x M := mem_cls.2 ⟨hx, h.irr x, h.irr x⟩
    rw [← hs.alike] at this
    exact (mem_cls.1 this).1
/-- Two lists none of whose elements are alike may change places. -/
theorem cls_swap (h : Swo lt) {M N : List α} (hmn : ∀ x ∈ M, ∀ y ∈ N, lt y x = true) (z : α) : cls lt z (N ++ M) = cls lt z (M ++ N) := by
  rw [cls_append, cls_append]
  by_cases hm : cls lt z M = []
  · rw [hm]; simp
  · by_cases hn : cls lt z N = []
    · rw [hn]; simp
    · exfalso
      obtain ⟨x, hx⟩ := List.exists_mem_of_ne_nil _ hm
      obtain ⟨y, hy⟩ := List.exists_mem_of_ne_nil _ hn
      obtain ⟨hx, x1, x2⟩ := mem_cls.1 hx
      obtain ⟨hy, y1, y2⟩ := mem_cls.1 hy
      have := hmn x hx y hy
      have h3 : lt y x = false := h.le_trans x1 y2
      rw [h3] at this
      cases this
theorem sortd_append {M N : List α} : Sortd lt (M ++ N) ↔ Sortd lt M ∧ Sortd lt N ∧ ∀ x ∈ M, ∀ y ∈ N, lt y x = false := by
  unfold Sortd; rw [List.pairwise_append]
/-- An element goes to its place in a sorted list. -/
theorem stab_insert (h : Swo lt) {S1 S2 : List α} {o : α} (hs : Sortd lt (S1 ++ S2)) (h1 : ∀ x ∈ S1, lt o x = false) (h2 : ∀ x ∈ S2, lt o x = true) : Stab lt (S1 ++ S2 ++ [o]) (S1 ++ o :: S2) := by
  obtain ⟨a1, a2, a3⟩ := sortd_append.1 hs
  refine ⟨fun z => ?_, ?_, by simp⟩
  · have e : S1 ++ o :: S2 = S1 ++ ([o] ++ S2) := rfl
    rw [e, List.append_assoc, cls_append, cls_append (M := S1), cls_swap h (M := S2) (N := [o]) fun x hx y hy => by rw [List.mem_singleton.1 hy]; exact h2 x hx]
  · refine sortd_append.2 ⟨a1, List.pairwise_cons.2 ⟨fun y hy => h.asym _ _ (h2 y hy), a2⟩, fun x hx y hy => ?_⟩
    rcases List.mem_cons.1 hy with rfl | hy
    · exact h1 x hx
    · exact a3 x hx y hy
/-- The same at the front: o goes behind all that are below it. -/
theorem stab_insert2 (h : Swo lt) {S1 S2 : List α} {o : α} (hs : Sortd lt (S1 ++ S2)) (h1 : ∀ x ∈ S1, lt x o = true) (h2 : ∀ x ∈ S2, lt x o = false) : Stab lt (o :: (S1 ++ S2)) (S1 ++ o :: S2) := by
  obtain ⟨a1, a2, a3⟩ := sortd_append.1 hs
  refine ⟨fun z => ?_, ?_, by simp <;> omega⟩
  · have e : S1 ++ o :: S2 = (S1 ++ [o]) ++ S2 := by simp
    have e2 : o :: (S1 ++ S2) = ([o] ++ S1) ++ S2 := rfl
    rw [e, e2, cls_append, cls_append (N := S2), cls_swap h (M := [o]) (N := S1) fun x hx y hy => by rw [List.mem_singleton.1 hx]; exact h1 y hy]
  · refine sortd_append.2 ⟨a1, List.pairwise_cons.2 ⟨fun y hy => h2 y hy, a2⟩, fun x hx y hy => ?_⟩
    rcases List.mem_cons.1 hy with rfl | hy
    · exact h.asym _ _ (h1 x hx)
    · exact a3 x hx y hy
theorem Stab.trans {A B C : List α} (h1 : Stab lt A B) (h2 : Stab lt B C) : Stab lt A C := ⟨fun x => (h2.alike x).trans (h1.alike x), h2.sorted, h2.len.trans h1.len⟩
theorem Stab.of_alike {A B C : List α} (h1 : ∀ x, cls lt x B = cls lt x A) (hl : B.length = A.length) (h2 : Stab lt B C) : Stab lt A C := ⟨fun x => (h2.alike x).trans (h1 x), h2.sorted, h2.len.trans hl⟩
/-- One merges two sorted lists by merging two parts of each. -/
theorem stab_merge (h : Swo lt) {U1 U2 V1 V2 L R : List α} (hu : Sortd lt (U1 ++ U2)) (hv : Sortd lt (V1 ++ V2)) (hvu : ∀ x ∈ U2, ∀ y ∈ V1, lt y x = true) (huv : ∀ x ∈ U1, ∀ y ∈ V2, lt y x = false)
    (hL : Stab lt (U1 ++ V1) L) (hR : Stab lt (U2 ++ V2) R) : Stab lt (U1 ++ U2 ++ (V1 ++ V2)) (L ++ R) := by
  obtain ⟨a1, a2, a3⟩ := sortd_append.1 hu
  obtain ⟨b1, b2, b3⟩ := sortd_append.1 hv
  refine ⟨fun z => ?_, sortd_append.2 ⟨hL.sorted, hR.sorted, fun x hx y hy => ?_⟩, ?_⟩
  · rw [cls_append, hL.alike, hR.alike, ← cls_append]
    have e : U1 ++ V1 ++ (U2 ++ V2) = U1 ++ ((V1 ++ U2) ++ V2) := by simp
    have e2 : U1 ++ U2 ++ (V1 ++ V2) = U1 ++ ((U2 ++ V1) ++ V2) := by simp
    rw [e, e2, cls_append, cls_append (N := V2), cls_append (M := U1), cls_append (N := V2), cls_swap h hvu]
  · rw [hL.mem h] at hx
    rw [hR.mem h] at hy
    rcases List.mem_append.1 hx with hx | hx <;> rcases List.mem_append.1 hy with hy | hy
    · exact a3 x hx y hy
    · exact huv x hx y hy
    · exact h.asym _ _ (hvu y hy x hx)
    · exact b3 x hx y hy
  · have := hL.len
    have := hR.len
    simp only [List.length_append] at *
    omega
end
end Go.Proofs.Ytilbhnloelgpdaa
namespace Go.Proofs.Ytilbhnloelgpdaa
open Go.RowKit
def ocell (o : Ord) : List Value := [.int .i64 o.id, .int .i64 o.owner, .int .i64 o.price, .int .i64 o.amount, .int .i64 o.place, .bool o.buys]
def ord0 : Ord := ⟨0, 0, 0, 0, 0, false⟩
def ocells (L : List Ord) : List Value := L.flatMap ocell
theorem ocell_length (o : Ord) : (ocell o).length = 6 := rfl
theorem ocells_length (L : List Ord) : (ocells L).length = L.length * 6 := by
  induction L with
  | nil => rfl
  | cons o l ih => unfold ocells at *; rw [List.flatMap_cons, List.length_append, ih, List.length_cons, ocell_length]; omega
theorem ocells_append (L M : List Ord) : ocells (L ++ M) = ocells L ++ ocells M := by unfold ocells; rw [List.flatMap_append]
theorem ocells_get (L : List Ord) {i j : Nat} (hi : i < L.length) (hj : j < 6) : (ocells L).getD (i * 6 + j) (.bool false) = (ocell (L.getD i ord0)).getD j (.bool false) := by
  induction L generalizing i with
  | nil => simp at hi
  | cons s L ih =>
    have e : ocells (s :: L) = ocell s ++ ocells L := rfl
    rw [e]
    cases i with
    | zero =>
      simp only [List.getD_eq_getElem?_getD, Nat.zero_mul, Nat.zero_add]
      rw [List.getElem?_append_left (by rw [ocell_length]; exact hj)]; rfl
    | succ i =>
      have := ih (i := i) (by simpa using hi)
      rw [show (i + 1) * 6 + j = (i * 6 + j) + 6 from by omega]
      simp only [List.getD_eq_getElem?_getD] at *
      rw [List.getElem?_append_right (by rw [ocell_length]; omega)]
      simpa [ocell] using this
theorem ocells_one (L : List Ord) : ∀ u ∈ ocells L, u.oneCell' = true := by
  intro u hu
  unfold ocells at hu
  obtain ⟨p, _, hs⟩ := List.mem_flatMap.1 hu
  unfold ocell at hs
  simp only [List.mem_cons, List.not_mem_nil, or_false] at hs
  rcases hs with rfl | rfl | rfl | rfl | rfl | rfl <;> rfl
/-- The list L in w, from A on. -/
def ORow (w : World) (A : Option Addr) (L : List Ord) : Prop := Row w A (L.length * 6) fun j => (ocells L).getD j (.bool false)
theorem ORow.below {w w' : World} {A : Option Addr} {L : List Ord} (h : ORow w A L) (hb : Below w.heap.size w w') : ORow w' A L := Row.below h hb
theorem ORow.nil (w : World) (A : Option Addr) : ORow w A [] := .inl rfl
theorem ORow.cells {w : World} {A : Option Addr} {L : List Ord} (h : ORow w A L) {i : Nat} (hi : i < L.length) : ∃ b o, A = some ⟨b, o, none⟩ ∧ ∀ w', Below w.heap.size w w' → ∀ j, j < 6 → w'.cell? ⟨b, o + i * 6 + j, none⟩ = some ((ocell (L.getD i ord0)).getD j (.bool false)) := by
  obtain ⟨b, o, e, _⟩ := Row.at_ h (k := i * 6) (by omega)
  refine ⟨b, o, e, fun w' hb j hj => ?_⟩
  obtain ⟨b', o', e', h1, h2⟩ := Row.at_ h (k := i * 6 + j) (by omega)
  rw [e] at e'; cases e'
  rw [← ocells_get L hi hj, Nat.add_assoc]; exact (below_cell hb h1).trans h2
theorem ORow.six {w w' : World} {b o : Nat} {L : List Ord} (h : ORow w (some ⟨b, o, none⟩) L) {i : Nat} (hi : i < L.length) (hb : Below w.heap.size w w') :
    w'.cell? ⟨b, o + i * 6, none⟩ = some (.int .i64 (L.getD i ord0).id) ∧ w'.cell? ⟨b, o + i * 6 + 1, none⟩ = some (.int .i64 (L.getD i ord0).owner) ∧ w'.cell? ⟨b, o + i * 6 + 2, none⟩ = some (.int .i64 (L.getD i ord0).price) ∧
    w'.cell? ⟨b, o + i * 6 + 3, none⟩ = some (.int .i64 (L.getD i ord0).amount) ∧ w'.cell? ⟨b, o + i * 6 + 4, none⟩ = some (.int .i64 (L.getD i ord0).place) ∧ w'.cell? ⟨b, o + i * 6 + 5, none⟩ = some (.bool (L.getD i ord0).buys) := by
  obtain ⟨b', o', e, h1⟩ := ORow.cells h hi
  cases e
  have each := h1 w' hb
  exact ⟨each 0 (by omega), each 1 (by omega), each 2 (by omega), each 3 (by omega), each 4 (by omega), each 5 (by omega)⟩
theorem ORow.some {w : World} {A : Option Addr} {L : List Ord} (h : ORow w A L) (hl : 0 < L.length) : ∃ b o, A = some ⟨b, o, none⟩ ∧ b < w.heap.size := by
  obtain ⟨b, o, e, h1, _⟩ := Row.at_ h (k := 0) (by omega)
  exact ⟨b, o, e, h1⟩
theorem ORow.take {w : World} {A : Option Addr} {L : List Ord} (h : ORow w A L) (k : Nat) : ORow w A (L.take k) := by
  have hl : (L.take k).length ≤ L.length := by rw [List.length_take]; omega
  have hc : ocells L = ocells (L.take k) ++ ocells (L.drop k) := by rw [← ocells_append, List.take_append_drop]
  rcases h with h | ⟨b, off, h1, h2, h3⟩
  · exact .inl (by omega)
  · refine .inr ⟨b, off, h1, h2, fun j hj => ?_⟩
    have := h3 j (by omega)
    rw [this]
    refine congrArg Option.some ?_
    show (ocells L).getD j _ = (ocells (L.take k)).getD j _
    rw [List.getD_eq_getElem?_getD, List.getD_eq_getElem?_getD, hc, List.getElem?_append_left (by rw [ocells_length]; exact hj)]
theorem Mine.orow {w0 w : World} {A : Option Addr} {c m : Nat} {L : List Ord} (h : Mine w0 w 6 (.slice A m c) m (ocells L)) (hm : L.length = m) : m ≤ c ∧ ORow w A L := by
  obtain ⟨A', c', e, h1, _, h3⟩ := h.row
  cases e
  refine ⟨h1, ?_⟩
  unfold ORow
  rw [hm]; exact h3
section
variable {H : Type} {enc : TypeId × Value → H} {P : Program} {W : World} {base : Nat} {spare : Nat → Bool} {held : Bool}
theorem six_cells {cs : List Value} {a b c d e f : Value} (h0 : (cs.drop 0).take 1 = [a]) (h1 : (cs.drop 1).take 1 = [b]) (h2 : (cs.drop 2).take 1 = [c]) (h3 : (cs.drop 3).take 1 = [d]) (h4 : (cs.drop 4).take 1 = [e]) (h5 : (cs.drop 5).take 1 = [f]) (hl : cs.length = 6) : cs = [a, b, c, d, e, f] := by
  match cs, hl with
  | [_, _, _, _, _, _], _ => simp_all
/-- An order that came in, as its cells read. -/
theorem open_cells {t ti tx : TypeId} {f0 f1 f2 f3 f4 f5 : Field} (ht : P.underlying t = some (.struct #[f0, f1, f2, f3, f4, f5])) (hc : P.cellsOf t = 6)
    (ho : f0.offset = 0 ∧ f1.offset = 1 ∧ f2.offset = 2 ∧ f3.offset = 3 ∧ f4.offset = 4 ∧ f5.offset = 5) (hf : f0.type = ti ∧ f1.type = ti ∧ f2.type = ti ∧ f3.type = ti ∧ f4.type = ti ∧ f5.type = tx) (hi : P.underlying ti = some (.int .i64)) (hci : P.cellsOf ti = 1) (hx : P.underlying tx = some .bool) (hcx : P.cellsOf tx = 1)
    {fuel : Nat} {cs : List Value} {x : DataW H × List MemPlace} (h : DataW.trod enc P W base spare held fuel t cs = some x) : ∃ a : Ord, cs = ocell a := by
  obtain ⟨xs, n, _, rfl, hl, hlen, hfs⟩ := DataW.trod_struct ht h
  obtain ⟨o0, o1, o2, o3, o4, o5⟩ := ho
  obtain ⟨t0, t1, t2, t3, t4, t5⟩ := hf
  match xs, hlen with
  | [y0, y1, y2, y3, y4, y5], _ =>
    have r0 := hfs 0 f0 rfl
    have r1 := hfs 1 f1 rfl
    have r2 := hfs 2 f2 rfl
    have r3 := hfs 3 f3 rfl
    have r4 := hfs 4 f4 rfl
    have r5 := hfs 5 f5 rfl
    rw [t0, o0, hci] at r0
    rw [t1, o1, hci] at r1
    rw [t2, o2, hci] at r2
    rw [t3, o3, hci] at r3
    rw [t4, o4, hci] at r4
    rw [t5, o5, hcx] at r5
    obtain ⟨z0, e0, _⟩ := DataW.trod_int hi r0
    obtain ⟨z1, e1, _⟩ := DataW.trod_int hi r1
    obtain ⟨z2, e2, _⟩ := DataW.trod_int hi r2
    obtain ⟨z3, e3, _⟩ := DataW.trod_int hi r3
    obtain ⟨z4, e4, _⟩ := DataW.trod_int hi r4
    obtain ⟨s, e5, _⟩ := DataW.trod_bool hx r5
    exact ⟨⟨z0, z1, z2, z3, z4, s⟩, six_cells e0 e1 e2 e3 e4 e5 (by rw [hl, hc])⟩
theorem open_orders {t e ti tx : TypeId} {f0 f1 f2 f3 f4 f5 : Field} (hs : P.underlying t = some (.slice e)) (ht : P.underlying e = some (.struct #[f0, f1, f2, f3, f4, f5])) (hc : P.cellsOf e = 6)
    (ho : f0.offset = 0 ∧ f1.offset = 1 ∧ f2.offset = 2 ∧ f3.offset = 3 ∧ f4.offset = 4 ∧ f5.offset = 5) (hf : f0.type = ti ∧ f1.type = ti ∧ f2.type = ti ∧ f3.type = ti ∧ f4.type = ti ∧ f5.type = tx) (hi : P.underlying ti = some (.int .i64)) (hci : P.cellsOf ti = 1) (hx : P.underlying tx = some .bool) (hcx : P.cellsOf tx = 1)
    {a : Option Addr} {len cap : Nat} {d : DataW H} {ps : List MemPlace} (h : DataW.Trod enc P W base spare held t (.slice a len cap) d ps) : ∃ L : List Ord, L.length = len ∧ len ≤ cap ∧ cap ≤ maxLen ∧ ORow W a L := by
  obtain ⟨fuel, hfu⟩ := h
  rcases Deep.open_slice hs hfu with ⟨hcs, _⟩ | ⟨x, l, c, m, n, D, Pl, hcs, _, hl, hm, hmm, _, hxx⟩
  · simp [Value.cells] at hcs
    obtain ⟨rfl, rfl, rfl⟩ := hcs
    exact ⟨[], rfl, Nat.le_refl _, by unfold maxLen; omega, ORow.nil _ _⟩
  · simp [Value.cells] at hcs
    obtain ⟨rfl, rfl, rfl⟩ := hcs
    have hlm : len ≤ m := by rw [hmm]; split <;> omega
    have each : ∀ i, i < len → ∃ z : Ord, ∀ k, k < 6 → W.cell? (x.add (i * 6 + k)) = some ((ocell z).getD k (.bool false)) := by
      intro i hi'
      obtain ⟨cs', h1, h2⟩ := hxx i (by omega)
      rw [hc] at h1
      obtain ⟨z, rfl⟩ := open_cells ht hc ho hf hi hci hx hcx h2
      refine ⟨z, fun k hk => ?_⟩
      have hcell := (World.cells?_some h1).2.2 k hk
      have e : (x.add (i * 6)).add k = x.add (i * 6 + k) := by
        unfold Addr.add
        by_cases q : i * 6 = 0
        · simp [q]
        · simp [q]
          by_cases q2 : k = 0
          · simp [q2]
          · simp [q2, Nat.add_assoc]
      rw [e] at hcell
      rw [hcell]
      have hk6 : k < (ocell z).length := hk
      rw [List.getD_eq_getElem?_getD, List.getElem?_eq_getElem hk6]; rfl
    refine ⟨List.ofFn fun i : Fin len => Classical.choose (each i i.2), by simp, hl, hm, ?_⟩
    refine Row.of_cells fun j hj => ?_
    rw [List.length_ofFn] at hj
    have hj6 : j / 6 < len := by omega
    have := Classical.choose_spec (each (j / 6) hj6) (j % 6) (by omega)
    rw [show j / 6 * 6 + j % 6 = j from by omega] at this
    rw [this]
    congr 1
    have hg := ocells_get (List.ofFn fun i : Fin len => Classical.choose (each i i.2)) (i := j / 6) (j := j % 6) (by simpa using hj6) (by omega)
    rw [show j / 6 * 6 + j % 6 = j from by omega] at hg
    rw [hg]
    congr 1
    rw [List.getD_eq_getElem?_getD, List.getElem?_ofFn, dif_pos hj6]; rfl
end
end Go.Proofs.Ytilbhnloelgpdaa
namespace Go.Proofs.Ytilbhnloelgpdaa
open Go.RowKit
set_option linter.unusedVariables false
set_option linter.unusedSimpArgs false
def oval (o : Ord) : Value := .agg #[.int .i64 o.id, .int .i64 o.owner, .int .i64 o.price, .int .i64 o.amount, .int .i64 o.place, .bool o.buys]
def Told (w : World) (v : Value) (e : Ending) (w' : World) : Prop := e = .returned v ∧ Below w.heap.size w w'
theorem told_bool {w w' : World} {b c : Bool} (h : c = b) (hb : Below w.heap.size w w') : Told w (.bool b) (.returned (.bool c)) w' := ⟨by rw [h], hb⟩
set_option maxHeartbeats 2000000 in
theorem right_calls (w : World) (o : Ord) : Calls Try.prog 47 #[oval o] w (Told w (.bool o.right)) := by
  obtain ⟨i, ow, p, a, pl, b⟩ := o
  obtain ⟨R, hR⟩ : ∃ R, Hid ((Ord.right ⟨i, ow, p, a, pl, b⟩) = R) := ⟨_, Lib.hid rfl⟩
  have hRR : Hid (R = decide (0 ≤ i ∧ i ≤ 9007199254740992 ∧ 0 ≤ ow ∧ ow ≤ 15 ∧ 0 ≤ p ∧ p ≤ 1099511627776 ∧ 1 ≤ a ∧ a ≤ 1048576)) := Lib.hid hR.out.symm
  show Calls Try.prog 47 #[.agg #[.int .i64 i, .int .i64 ow, .int .i64 p, .int .i64 a, .int .i64 pl, .bool b]] w _
  rw [hR.out]
  have hb0 : Hid (Below w.heap.size w (w.alloc (.cells #[.int .i64 i, .int .i64 ow, .int .i64 p, .int .i64 a, .int .i64 pl, .bool b] 33))) := Lib.hid ((Below.refl _ _).alloc (Nat.le_refl _) _)
  have B0 := Lib.hid (Blk.new w 33 #[.int .i64 i, .int .i64 ow, .int .i64 p, .int .i64 a, .int .i64 pl, .bool b])
  go_enter Try.func47, Try.ntmps47
  go_upto_region 1 with (fail)
  obtain ⟨g, hg⟩ : ∃ g, w.heap.size = g := ⟨_, rfl⟩
  have HG := Lib.hid hg
  rw [hg] at B0 ⊢
  clear hg
  generalize World.alloc w _ = wy at hb0 B0 ⊢
  have HX : Hid (wy.cell? ⟨g, 0, none⟩ = some (.int .i64 i) ∧ wy.cell? ⟨g, 1, none⟩ = some (.int .i64 ow) ∧ wy.cell? ⟨g, 2, none⟩ = some (.int .i64 p) ∧ wy.cell? ⟨g, 3, none⟩ = some (.int .i64 a)) := Lib.hid ⟨B0.out.cell 0, B0.out.cell 1, B0.out.cell 2, B0.out.cell 3⟩
  obtain ⟨c0, c1, c2, c3⟩ := HX.out
  go_wp2
  all_goals (try simp only [Exit.inBlock, Exit.then])
  all_goals refine bodyPost_ret (by simp [results, Try.results47, asAddr, go_sem]; rfl) rfl (told_bool ?_ hb0.out)
  all_goals rw [hRR.out]
  all_goals first | exact (decide_eq_true (by omega)).symm | exact (decide_eq_false (by omega)).symm | (rw [decide_eq_decide]; omega)
set_option maxHeartbeats 2000000 in
theorem rright_calls (w : World) (o : Ord) : Calls Try.prog 37 #[oval o] w (Told w (.bool o.right)) := by
  obtain ⟨i, ow, p, a, pl, b⟩ := o
  obtain ⟨R, hR⟩ : ∃ R, Hid ((Ord.right ⟨i, ow, p, a, pl, b⟩) = R) := ⟨_, Lib.hid rfl⟩
  have hRR : Hid (R = decide (0 ≤ i ∧ i ≤ 9007199254740992 ∧ 0 ≤ ow ∧ ow ≤ 15 ∧ 0 ≤ p ∧ p ≤ 1099511627776 ∧ 1 ≤ a ∧ a ≤ 1048576)) := Lib.hid hR.out.symm
  show Calls Try.prog 37 #[.agg #[.int .i64 i, .int .i64 ow, .int .i64 p, .int .i64 a, .int .i64 pl, .bool b]] w _
  rw [hR.out]
  have hb0 : Hid (Below w.heap.size w (w.alloc (.cells #[.int .i64 i, .int .i64 ow, .int .i64 p, .int .i64 a, .int .i64 pl, .bool b] 33))) := Lib.hid ((Below.refl _ _).alloc (Nat.le_refl _) _)
  have B0 := Lib.hid (Blk.new w 33 #[.int .i64 i, .int .i64 ow, .int .i64 p, .int .i64 a, .int .i64 pl, .bool b])
  go_enter Try.func37, Try.ntmps37
  go_upto_region 1 with (fail)
  obtain ⟨g, hg⟩ : ∃ g, w.heap.size = g := ⟨_, rfl⟩
  have HG := Lib.hid hg
  rw [hg] at B0 ⊢
  clear hg
  generalize World.alloc w _ = wy at hb0 B0 ⊢
  have HX : Hid (wy.cell? ⟨g, 0, none⟩ = some (.int .i64 i) ∧ wy.cell? ⟨g, 1, none⟩ = some (.int .i64 ow) ∧ wy.cell? ⟨g, 2, none⟩ = some (.int .i64 p) ∧ wy.cell? ⟨g, 3, none⟩ = some (.int .i64 a)) := Lib.hid ⟨B0.out.cell 0, B0.out.cell 1, B0.out.cell 2, B0.out.cell 3⟩
  obtain ⟨c0, c1, c2, c3⟩ := HX.out
  go_wp2
  all_goals (try simp only [Exit.inBlock, Exit.then])
  all_goals refine bodyPost_ret (by simp [results, Try.results37, asAddr, go_sem]; rfl) rfl (told_bool ?_ hb0.out)
  all_goals rw [hRR.out]
  all_goals first | exact (decide_eq_true (by omega)).symm | exact (decide_eq_false (by omega)).symm | (rw [decide_eq_decide]; omega)
end Go.Proofs.Ytilbhnloelgpdaa
namespace Go.Proofs.Ytilbhnloelgpdaa
open Go.RowKit
set_option linter.unusedVariables false
set_option linter.unusedSimpArgs false
namespace Ca
def up (l : List Ord) (p : Int) (k : Nat) : Int := bought ((l.take k).filter Ord.right) p
def dn (l : List Ord) (p : Int) (k : Nat) : Int := sold ((l.take k).filter Ord.right) p
theorem take_at (l : List Ord) {k : Nat} (h : k < l.length) : l.take (k + 1) = l.take k ++ [l.getD k ord0] := by
  rw [List.take_succ_eq_append_getElem h, List.getD_eq_getElem?_getD, List.getElem?_eq_getElem h]; rfl
theorem bought_one (o : Ord) (p : Int) : bought [o] p = if o.buys = true ∧ p ≤ o.price then o.amount else 0 := by
  rw [bought_cons]; simp [bought]
theorem sold_one (o : Ord) (p : Int) : sold [o] p = if o.buys = false ∧ o.price ≤ p then o.amount else 0 := by
  rw [sold_cons]; simp [sold]
theorem filter_one (o : Ord) : [o].filter Ord.right = if o.right = true then [o] else [] := by
  by_cases h : o.right = true <;> simp [h]
theorem up_bad (l : List Ord) (p : Int) {k : Nat} (h : k < l.length) (hr : (l.getD k ord0).right = false) : up l p (k + 1) = up l p k ∧ dn l p (k + 1) = dn l p k := by
  unfold up dn
  rw [take_at l h, List.filter_append, filter_one, hr, if_neg (by simp), List.append_nil]
  exact ⟨rfl, rfl⟩
theorem up_next (l : List Ord) (p : Int) {k : Nat} (h : k < l.length) (hr : (l.getD k ord0).right = true) : up l p (k + 1) = up l p k + (if (l.getD k ord0).buys = true ∧ p ≤ (l.getD k ord0).price then (l.getD k ord0).amount else 0) := by
  unfold up
  rw [take_at l h, List.filter_append, filter_one, if_pos hr, bought_append, bought_one]
theorem dn_next (l : List Ord) (p : Int) {k : Nat} (h : k < l.length) (hr : (l.getD k ord0).right = true) : dn l p (k + 1) = dn l p k + (if (l.getD k ord0).buys = false ∧ (l.getD k ord0).price ≤ p then (l.getD k ord0).amount else 0) := by
  unfold dn
  rw [take_at l h, List.filter_append, filter_one, if_pos hr, sold_append, sold_one]
theorem right_amount {l : List Ord} : ∀ o ∈ l.filter Ord.right, 1 ≤ o.amount ∧ o.amount ≤ 1048576 := fun o ho => by
  have := (Ord.right_iff o).1 (List.mem_filter.1 ho).2
  omega
theorem up_bound (l : List Ord) (p : Int) (k : Nat) : 0 ≤ up l p k ∧ up l p k ≤ 1048576 * k ∧ 0 ≤ dn l p k ∧ dn l p k ≤ 1048576 * k := by
  have h1 := bought_bound (l := (l.take k).filter Ord.right) right_amount p
  have h2 := sold_bound (l := (l.take k).filter Ord.right) right_amount p
  have h3 := List.length_filter_le Ord.right (l.take k)
  rw [List.length_take] at h3
  have h4 : (((l.take k).filter Ord.right).length : Int) ≤ k := by omega
  exact ⟨bought_nonneg (fun o ho => (right_amount o ho).1) p, by unfold up; omega, sold_nonneg (fun o ho => (right_amount o ho).1) p, by unfold dn; omega⟩
theorem up_all (l : List Ord) (p : Int) : min (up l p l.length) (dn l p l.length) = traded (l.filter Ord.right) p := by
  unfold up dn traded
  rw [List.take_length]
theorem up_zero (l : List Ord) (p : Int) : up l p 0 = 0 ∧ dn l p 0 = 0 := by unfold up dn; simp [bought, sold]
end Ca
set_option maxHeartbeats 4000000 in
theorem rtraded_calls (w : World) (A : Option Addr) (L : List Ord) (c : Nat) (p : Int) (h : ORow w A L) (hl : L.length ≤ 64) :
    Calls Try.prog 21 #[.slice A L.length c, .int .i64 p] w (Told w (.int .i64 (Ca.traded (L.filter Ord.right) p))) := by
  have H := Lib.hid h
  obtain ⟨m, hm⟩ : ∃ m, Hid (L.length = m) := ⟨_, Lib.hid rfl⟩
  have HR := Lib.hid (fun wx o => rright_calls wx o)
  have HT := Lib.hid (Ca.up_all L p)
  obtain ⟨T, hT⟩ : ∃ T, Hid (Ca.traded (L.filter Ord.right) p = T) := ⟨_, Lib.hid rfl⟩
  rw [hm.out] at hl HT ⊢
  rw [hT.out] at HT ⊢
  clear h
  go_enter Try.func21, Try.ntmps21
  go_upto_region 3 with (fail)
  go_loopg [5, 6, 7] (m + 1) (fun gk s5 s6 s7 wr => ∃ i : Nat, gk = m + 1 - i ∧ i ≤ m ∧ s7 = .int .i64 (i : Int) ∧ s5 = .int .i64 (Ca.up L p i) ∧ s6 = .int .i64 (Ca.dn L p i) ∧ Hid (Below w.heap.size w wr))
  case atStart => exact ⟨0, rfl, Nat.zero_le _, rfl, by rw [(Ca.up_zero L p).1], by rw [(Ca.up_zero L p).2], Lib.hid (Below.refl _ _)⟩
  case round =>
    obtain ⟨i, rfl, hi, rfl, rfl, rfl, hb⟩ := hrel
    have i0 : (0 : Int) ≤ (i : Int) := by omega
    obtain ⟨u0, u1, d0, d1⟩ := Ca.up_bound L p i
    by_cases hlt : i < m
    · have hltI : (i : Int) < (m : Int) := by omega
      have hlL : Hid (i < L.length) := Lib.hid (by rw [hm.out]; exact hlt)
      obtain ⟨b, o, rfl⟩ : ∃ b o, A = some ⟨b, o, none⟩ := by
        obtain ⟨b, o, e, _⟩ := H.out.cells hlL.out
        exact ⟨b, o, e⟩
      have HC := Lib.hid (fun wx hh => ORow.six H.out hlL.out (w' := wx) hh)
      have hBad := Lib.hid (Ca.up_bad L p hlL.out)
      have hUp := Lib.hid (Ca.up_next L p hlL.out)
      have hDn := Lib.hid (Ca.dn_next L p hlL.out)
      have hRi := Lib.hid ((Ord.right_iff (L.getD i ord0)).1)
      have HRr := Lib.hid (fun wx => HR.out wx (L.getD i ord0))
      generalize L.getD i ord0 = q at HC hBad hUp hDn hRi HRr
      obtain ⟨qi, qo, qp, qa, qpl, qb⟩ := q
      unfold oval at HRr
      simp only at HC hUp hDn hRi HRr
      generalize Ord.right ⟨qi, qo, qp, qa, qpl, qb⟩ = r at hBad hUp hDn hRi HRr
      obtain ⟨c0, c1, c2, c3, c4, c5⟩ := HC.out wr hb.out
      generalize Ca.up L p i = U at hBad hUp u0 u1 ⊢
      generalize Ca.dn L p i = D at hBad hDn d0 d1 ⊢
      cases r with
      | false =>
        obtain ⟨e1, e2⟩ := hBad.out rfl
        clear hUp hDn hRi hBad
        go_upto_region 4 with (go_at_call 37; (with_reducible refine (HRr.out _).mono ?_); rintro e w1 ⟨rfl, hh⟩; have hb1 := Lib.hid (below_next hb.out hh); clear hh)
        clear c0 c1 c2 c3 c4 c5
        go_wp2
        go_roundg (m + 1 - (i + 1))
        case measure => omega
        case rel => exact ⟨i + 1, rfl, by omega, by go_num, by rw [e1], by rw [e2], hb1⟩
      | true =>
        have hU := hUp.out rfl
        have hD := hDn.out rfl
        obtain ⟨_, _, _, _, _, _, a0, a1⟩ := hRi.out rfl
        clear hUp hDn hRi hBad
        have qU : IntKind.i64.wrap (U + qa) = U + qa := by rw [IntKind.wrap_i64]; omega
        have qD : IntKind.i64.wrap (D + qa) = D + qa := by rw [IntKind.wrap_i64]; omega
        go_upto_region 6 with (go_at_call 37; (with_reducible refine (HRr.out _).mono ?_); rintro e w1 ⟨rfl, hh⟩; have hb1 := Lib.hid (below_next hb.out hh); clear hh)
        clear c0 c1 c2 c3 c4 c5
        obtain ⟨c0, c1, c2, c3, c4, c5⟩ := HC.out w1 hb1.out
        have HM := Lib.hid (show m + 1 - (i + 1) < m + 1 - i by omega)
        clear u0 u1 d0 d1 a0 a1
        cases qb with
        | true =>
          have hD' : Ca.dn L p (i + 1) = D := by rw [hD, if_neg (by simp)]; omega
          by_cases hp : p ≤ qp
          · have hU' : Ca.up L p (i + 1) = U + qa := by rw [hU, if_pos ⟨rfl, hp⟩]
            go_wp2
            go_roundg (m + 1 - (i + 1))
            case measure => exact HM.out
            case rel => exact ⟨i + 1, rfl, by omega, by go_num, by rw [hU'], by rw [hD'], hb1⟩
          · have hU' : Ca.up L p (i + 1) = U := by rw [hU, if_neg fun hh => hp hh.2]; omega
            go_wp2
            go_roundg (m + 1 - (i + 1))
            case measure => exact HM.out
            case rel => exact ⟨i + 1, rfl, by omega, by go_num, by rw [hU'], by rw [hD'], hb1⟩
        | false =>
          have hU' : Ca.up L p (i + 1) = U := by rw [hU, if_neg (by simp)]; omega
          by_cases hp : qp ≤ p
          · have hD' : Ca.dn L p (i + 1) = D + qa := by rw [hD, if_pos ⟨rfl, hp⟩]
            go_wp2
            go_roundg (m + 1 - (i + 1))
            case measure => exact HM.out
            case rel => exact ⟨i + 1, rfl, by omega, by go_num, by rw [hU'], by rw [hD'], hb1⟩
          · have hD' : Ca.dn L p (i + 1) = D := by rw [hD, if_neg fun hh => hp hh.2]; omega
            go_wp2
            go_roundg (m + 1 - (i + 1))
            case measure => exact HM.out
            case rel => exact ⟨i + 1, rfl, by omega, by go_num, by rw [hU'], by rw [hD'], hb1⟩
    · obtain rfl : m = i := by omega
      generalize Ca.up L p m = U at HT u0 u1 ⊢
      generalize Ca.dn L p m = D at HT d0 d1 ⊢
      by_cases hUD : U ≤ D
      · have hT' := HT.out
        rw [Int.min_eq_left hUD] at hT'
        go_wp2
        all_goals
          refine bodyPost_ret (by simp [results, Try.results21, asAddr, go_sem]; rfl) rfl ?_
          exact ⟨rfl, hb.out⟩
      · have hT' := HT.out
        rw [Int.min_eq_right (by omega)] at hT'
        go_wp2
        all_goals
          refine bodyPost_ret (by simp [results, Try.results21, asAddr, go_sem]; rfl) rfl ?_
          exact ⟨rfl, hb.out⟩
end Go.Proofs.Ytilbhnloelgpdaa
namespace Go.Proofs.Ytilbhnloelgpdaa
open Go.RowKit
set_option linter.unusedVariables false
set_option linter.unusedSimpArgs false
namespace Ca
def cx (l : List Ord) (k : Nat) : Int × Int := ((l.take k).filter Ord.right).foldl (crossStep (l.filter Ord.right)) (0, 0)
theorem cx_zero (l : List Ord) : cx l 0 = (0, 0) := by unfold cx; simp
theorem cx_bad (l : List Ord) {k : Nat} (h : k < l.length) (hr : (l.getD k ord0).right = false) : cx l (k + 1) = cx l k := by
  unfold cx
  rw [take_at l h, List.filter_append, filter_one, hr, if_neg (by simp), List.append_nil]
theorem cx_next (l : List Ord) {k : Nat} (h : k < l.length) (hr : (l.getD k ord0).right = true) : cx l (k + 1) = crossStep (l.filter Ord.right) (cx l k) (l.getD k ord0) := by
  unfold cx
  rw [take_at l h, List.filter_append, filter_one, if_pos hr, List.foldl_append]; rfl
theorem cx_all (l : List Ord) (h : l.length ≤ 64) : cx l l.length = cross l := by
  unfold cx cross crossOf rights
  rw [List.take_length, if_neg (by omega)]
theorem cross_many (l : List Ord) (h : 64 < l.length) : cross l = (0, 0) := by
  unfold cross crossOf rights
  rw [if_pos h]; rfl
end Ca
set_option maxHeartbeats 4000000 in
theorem rcross_calls (w : World) (A : Option Addr) (L : List Ord) (c : Nat) (h : ORow w A L) :
    Calls Try.prog 15 #[.slice A L.length c] w (Told w (.tuple #[.int .i64 (Ca.cross L).1, .int .i64 (Ca.cross L).2])) := by
  have H := Lib.hid h
  obtain ⟨m, hm⟩ : ∃ m, Hid (L.length = m) := ⟨_, Lib.hid rfl⟩
  by_cases hl : 64 < m
  · have E : Hid (Ca.cross L = (0, 0)) := Lib.hid (Ca.cross_many L (by rw [hm.out]; exact hl))
    rw [E.out, hm.out]
    have hlI : (64 : Int) < (m : Int) := by omega
    clear h
    go_enter Try.func15, Try.ntmps15
    go_wp2
    refine bodyPost_ret (by simp [results, Try.results15, asAddr, go_sem]; rfl) rfl ?_
    exact ⟨rfl, Below.refl _ _⟩
  have HR := Lib.hid (fun wx o => rright_calls wx o)
  have HTr : Hid (∀ wx, Below w.heap.size w wx → ∀ p, Calls Try.prog 21 #[.slice A m c, .int .i64 p] wx (Told wx (.int .i64 (Ca.traded (L.filter Ord.right) p)))) := Lib.hid fun wx hb p => by
    have := rtraded_calls wx A L c p (H.out.below hb) (by rw [hm.out]; omega)
    rwa [hm.out] at this
  have HE := Lib.hid (Ca.cx_all L (by rw [hm.out]; omega))
  obtain ⟨T, hT⟩ : ∃ T, Hid (Ca.cross L = T) := ⟨_, Lib.hid rfl⟩
  rw [hT.out, hm.out] at HE
  rw [hm.out, hT.out]
  have hlI : ¬ (64 : Int) < (m : Int) := by omega
  clear h
  go_enter Try.func15, Try.ntmps15
  go_upto_region 5 with (fail)
  go_loopg [4, 5, 6] (m + 1) (fun gk s4 s5 s6 wr => ∃ i : Nat, gk = m + 1 - i ∧ i ≤ m ∧ s6 = .int .i64 (i : Int) ∧ s4 = .int .i64 (Ca.cx L i).1 ∧ s5 = .int .i64 (Ca.cx L i).2 ∧ Hid (Below w.heap.size w wr))
  case atStart => exact ⟨0, rfl, Nat.zero_le _, rfl, by rw [Ca.cx_zero L], by rw [Ca.cx_zero L], Lib.hid (Below.refl _ _)⟩
  case round =>
    obtain ⟨i, rfl, hi, rfl, rfl, rfl, hb⟩ := hrel
    have i0 : (0 : Int) ≤ (i : Int) := by omega
    by_cases hlt : i < m
    · have hltI : (i : Int) < (m : Int) := by omega
      have hlL : Hid (i < L.length) := Lib.hid (by rw [hm.out]; exact hlt)
      obtain ⟨b, o, rfl⟩ : ∃ b o, A = some ⟨b, o, none⟩ := by
        obtain ⟨b, o, e, _⟩ := H.out.cells hlL.out
        exact ⟨b, o, e⟩
      have HC := Lib.hid (fun wx hh => ORow.six H.out hlL.out (w' := wx) hh)
      have hBad := Lib.hid (Ca.cx_bad L hlL.out)
      have hNx := Lib.hid (Ca.cx_next L hlL.out)
      have HRr := Lib.hid (fun wx => HR.out wx (L.getD i ord0))
      have HM := Lib.hid (show m + 1 - (i + 1) < m + 1 - i by omega)
      generalize L.getD i ord0 = q at HC hBad hNx HRr
      obtain ⟨qi, qo, qp, qa, qpl, qb⟩ := q
      unfold oval at HRr
      unfold Ca.crossStep at hNx
      simp only at HC hNx HRr
      generalize Ord.right ⟨qi, qo, qp, qa, qpl, qb⟩ = r at hBad hNx HRr
      obtain ⟨c0, c1, c2, c3, c4, c5⟩ := HC.out wr hb.out
      generalize Ca.cx L i = acc at hBad hNx ⊢
      obtain ⟨P, B⟩ := acc
      simp only at hNx ⊢
      cases r with
      | false =>
        have e1 := hBad.out rfl
        clear hNx hBad
        go_upto_region 6 with (go_at_call 37; (with_reducible refine (HRr.out _).mono ?_); rintro e w1 ⟨rfl, hh⟩; have hb1 := Lib.hid (below_next hb.out hh); clear hh)
        clear c0 c1 c2 c3 c4 c5
        go_wp2
        go_roundg (m + 1 - (i + 1))
        case measure => exact HM.out
        case rel => exact ⟨i + 1, rfl, by omega, by go_num, by rw [e1], by rw [e1], hb1⟩
      | true =>
        have hN := hNx.out rfl
        have HTq := Lib.hid (fun wx hh => HTr.out wx hh qp)
        clear hNx hBad
        generalize Ca.traded (L.filter Ord.right) qp = t at hN HTq
        go_upto_region 8 with (go_at_call 37; (with_reducible refine (HRr.out _).mono ?_); rintro e w1 ⟨rfl, hh⟩; have hb1 := Lib.hid (below_next hb.out hh); clear hh)
        clear c0 c1 c2 c3 c4 c5
        obtain ⟨c0, c1, c2, c3, c4, c5⟩ := HC.out w1 hb1.out
        go_upto_region 9 with (go_at_call 21; (with_reducible refine (HTq.out _ hb1.out).mono ?_); rintro e w2 ⟨rfl, hh⟩; have hb2 := Lib.hid (below_next hb1.out hh); clear hh)
        clear c0 c1 c2 c3 c4 c5
        obtain ⟨c0, c1, c2, c3, c4, c5⟩ := HC.out w2 hb2.out
        by_cases h1 : B < t
        · rw [if_pos (.inl h1)] at hN
          go_wp2
          go_roundg (m + 1 - (i + 1))
          case measure => exact HM.out
          case rel => exact ⟨i + 1, rfl, by omega, by go_num, by rw [hN], by rw [hN], hb2⟩
        · by_cases h2 : t = B
          · by_cases h3 : 0 < t
            · by_cases h4 : qp < P
              · rw [if_pos (.inr ⟨h2, h3, h4⟩)] at hN
                subst h2
                go_wp2
                go_roundg (m + 1 - (i + 1))
                case measure => exact HM.out
                case rel => exact ⟨i + 1, rfl, by omega, by go_num, by rw [hN], by rw [hN], hb2⟩
              · rw [if_neg (by omega)] at hN
                subst h2
                go_wp2
                go_roundg (m + 1 - (i + 1))
                case measure => exact HM.out
                case rel => exact ⟨i + 1, rfl, by omega, by go_num, by rw [hN], by rw [hN], hb2⟩
            · rw [if_neg (by omega)] at hN
              subst h2
              go_wp2
              go_roundg (m + 1 - (i + 1))
              case measure => exact HM.out
              case rel => exact ⟨i + 1, rfl, by omega, by go_num, by rw [hN], by rw [hN], hb2⟩
          · rw [if_neg (by omega)] at hN
            have h2B : (t == B) = false := by simpa using h2
            go_wp2
            go_roundg (m + 1 - (i + 1))
            case measure => exact HM.out
            case rel => exact ⟨i + 1, rfl, by omega, by go_num, by rw [hN], by rw [hN], hb2⟩
    · obtain rfl : m = i := by omega
      go_wp2
      refine bodyPost_ret (by simp [results, Try.results15, asAddr, go_sem]; rfl) rfl ?_
      exact ⟨by rw [HE.out], hb.out⟩
end Go.Proofs.Ytilbhnloelgpdaa
namespace Go.Proofs.Ytilbhnloelgpdaa
open Go.RowKit
set_option linter.unusedVariables false
set_option linter.unusedSimpArgs false
theorem ORow.src {w : World} {A : Option Addr} {L : List Ord} (h : ORow w A L) (c : Nat) : Src Try.prog 6 22 (.slice A L.length c) L.length (ocells L) w := by
  rcases h with h | ⟨b, o, rfl, h2, h3⟩
  · have h0 : L.length = 0 := by omega
    have hL : L = [] := List.eq_nil_of_length_eq_zero h0
    subst hL
    cases A with
    | none => exact Src.ofNil _ Try.underlying22 c
    | some a => exact Src.ofSlice _ Try.underlying22 a 0 c [] rfl (fun j u hu => by simp at hu) (fun u hu => by simp at hu)
  · refine Src.ofSlice _ Try.underlying22 ⟨b, o, none⟩ L.length c (ocells L) (ocells_length L) (fun j u hu => ?_) (ocells_one L)
    have hj : j < L.length * 6 := by
      have := (List.getElem?_eq_some_iff.1 hu).1
      rwa [ocells_length] at this
    rw [show (⟨b, o, none⟩ : Addr).add j = ⟨b, o + j, none⟩ from by simp [Addr.add_lit], h3 j hj]
    show Option.some ((ocells L).getD j _) = Option.some u
    rw [List.getD_eq_getElem?_getD, hu]; rfl
theorem info_order : (Try.prog.info? 33).map (fun i => (i.zero, i.size, i.bytes)) = some (some (.agg #[.int .i64 0, .int .i64 0, .int .i64 0, .int .i64 0, .int .i64 0, .bool false]), 6, 48) := by kernel_rfl
/-- A list of orders, its own. -/
def Listed (w : World) (L : List Ord) (e : Ending) (w' : World) : Prop := ∃ A c, e = .returned (.slice A L.length c) ∧ Mine w w' 6 (.slice A L.length c) L.length (ocells L) ∧ Below w.heap.size w w'
set_option maxHeartbeats 2000000 in
set_option maxRecDepth 100000 in
theorem clone_calls (w : World) (A : Option Addr) (L : List Ord) (c : Nat) (h : ORow w A L) (hl : L.length ≤ 64) :
    Calls Try.prog 42 #[.slice A L.length c] w (Listed w L) := by
  have H := Lib.hid h
  have HS : Hid (∀ wx, Below w.heap.size w wx → Src Try.prog 6 22 (.slice A L.length c) L.length (ocells L) wx) := Lib.hid fun wx hb => (h.below hb).src c
  obtain ⟨m, hm⟩ : ∃ m, Hid (L.length = m) := ⟨_, Lib.hid rfl⟩
  obtain ⟨i1, hi1, hy0, hy1, hy2⟩ := info_parts info_order
  have HI1 := Lib.hid hi1
  have HY0 := Lib.hid hy0
  have HY1 := Lib.hid hy1
  have HY2 := Lib.hid hy2
  rw [hm.out] at HS hl ⊢
  clear h hi1 hy0 hy1 hy2
  have hA1 : Hid (0 + m ≤ maxLen) := Lib.hid (by unfold maxLen; omega)
  have hA2 : Hid ((0 + m) * 48 ≤ 140737488355328) := Lib.hid (by omega)
  cases A with
  | none =>
    have h0 : m = 0 := by
      rcases H.out with h0 | ⟨b, off, h0, _⟩
      · have := hm.out; omega
      · cases h0
    subst h0
    have hq : ∀ wx, (binOp .eql 22 (.slice none 0 c) (.slice none 0 0)).run Try.prog wx = .ok (.bool true) wx := fun wx => Lib.run_eql_slice_nil wx _ _ _ _ _ _ _ Try.underlying22
    have hL : L = [] := List.eq_nil_of_length_eq_zero hm.out
    go_enter Try.func42, Try.ntmps42
    go_wp2
    refine bodyPost_ret (by simp [results, Try.results42, asAddr, go_sem]; rfl) rfl ?_
    subst hL
    exact ⟨none, 0, rfl, Mine.empty _ _ _ _, Below.refl _ _⟩
  | some ad =>
    have hq : ∀ wx, (binOp .eql 22 (.slice (some ad) m c) (.slice none 0 0)).run Try.prog wx = .ok (.bool false) wx := fun wx => Lib.run_eql_slice_nil wx _ _ _ _ _ _ _ Try.underlying22
    go_enter Try.func42, Try.ntmps42
    go_upto_region 3 with (fail)
    go_wp2_with (first
      | (refine wpList_append_mine rfl (.tmp 5) (.tmp 6) 22 22 rfl 33 i1 (.agg #[.int .i64 0, .int .i64 0, .int .i64 0, .int .i64 0, .int .i64 0, .bool false]) 48 Try.underlying22 HI1.out HY0.out HY1.out HY2.out rfl (by decide) rfl (Mine.empty w _ 6 _) ((Below.refl _ _).alloc (Nat.le_refl _) _) _ m (ocells L) rfl (HS.out _ ((Below.refl _ _).alloc (Nat.le_refl _) _)) hA1.out hA2.out ?_; intro A2 c2 w2 hm2 hb2; have HM2 := Lib.hid hm2; have HB2 := Lib.hid hb2; clear hm2 hb2))
    refine bodyPost_ret (by simp [results, Try.results42, asAddr, go_sem]; rfl) rfl ?_
    have hz := HM2.out
    rw [Nat.zero_add, List.nil_append] at hz
    exact ⟨A2, c2, by rw [hm.out], by rw [hm.out]; exact hz, HB2.out⟩
end Go.Proofs.Ytilbhnloelgpdaa
namespace Go.Proofs.Ytilbhnloelgpdaa
open Go.RowKit
set_option linter.unusedVariables false
set_option linter.unusedSimpArgs false
set_option maxHeartbeats 2000000 in
theorem wrong_calls (w : World) (o : Ord) : Calls Try.prog 58 #[oval o] w (Told w (.bool (!o.right))) := by
  have HR := Lib.hid (fun wx => right_calls wx o)
  obtain ⟨i, ow, p, a, pl, b⟩ := o
  unfold oval at HR ⊢
  simp only at HR ⊢
  generalize Ord.right ⟨i, ow, p, a, pl, b⟩ = r at HR ⊢
  have hb0 : Hid (Below w.heap.size w (w.alloc (.cells #[.int .i64 i, .int .i64 ow, .int .i64 p, .int .i64 a, .int .i64 pl, .bool b] 33))) := Lib.hid ((Below.refl _ _).alloc (Nat.le_refl _) _)
  have B0 := Lib.hid (Blk.new w 33 #[.int .i64 i, .int .i64 ow, .int .i64 p, .int .i64 a, .int .i64 pl, .bool b])
  go_enter Try.func58, Try.ntmps58
  go_upto_region 1 with (fail)
  obtain ⟨g, hg⟩ : ∃ g, w.heap.size = g := ⟨_, rfl⟩
  rw [hg] at B0 ⊢
  clear hg
  generalize World.alloc w _ = wy at hb0 B0 ⊢
  have HX : Hid (wy.cell? ⟨g, 0, none⟩ = some (.int .i64 i) ∧ wy.cell? ⟨g, 1, none⟩ = some (.int .i64 ow) ∧ wy.cell? ⟨g, 2, none⟩ = some (.int .i64 p) ∧ wy.cell? ⟨g, 3, none⟩ = some (.int .i64 a) ∧ wy.cell? ⟨g, 4, none⟩ = some (.int .i64 pl) ∧ wy.cell? ⟨g, 5, none⟩ = some (.bool b)) := Lib.hid ⟨B0.out.cell 0, B0.out.cell 1, B0.out.cell 2, B0.out.cell 3, B0.out.cell 4, B0.out.cell 5⟩
  obtain ⟨c0, c1, c2, c3, c4, c5⟩ := HX.out
  go_wp2_with (go_at_call 47; (with_reducible refine (HR.out _).mono ?_); rintro e w1 ⟨rfl, hh⟩; have hb1 := Lib.hid (below_next hb0.out hh); clear hh)
  refine bodyPost_ret (by simp [results, Try.results58, asAddr, go_sem]; rfl) rfl ?_
  exact ⟨rfl, hb1.out⟩
end Go.Proofs.Ytilbhnloelgpdaa
namespace Go.Proofs.Ytilbhnloelgpdaa
open Go.RowKit
set_option linter.unusedVariables false
set_option linter.unusedSimpArgs false
/-- So many orders in front are right. -/
def lead (L : List Ord) : Nat := (L.takeWhile Ord.right).length
theorem lead_le (L : List Ord) : lead L ≤ L.length := (List.takeWhile_sublist _).length_le
theorem lead_stop : ∀ (L : List Ord) (i : Nat), i < L.length → (∀ j, j < i → (L.getD j ord0).right = true) → (L.getD i ord0).right = false → lead L = i
  | [], i, h, _, _ => by simp at h
  | o :: l, 0, _, _, h2 => by
    unfold lead
    rw [List.takeWhile_cons_of_neg (by simpa using h2)]; rfl
  | o :: l, i + 1, h, h1, h2 => by
    have h0 : o.right = true := h1 0 (by omega)
    have := lead_stop l i (by simpa using h) (fun j hj => h1 (j + 1) (by omega)) (by simpa using h2)
    unfold lead at *
    rw [List.takeWhile_cons_of_pos h0, List.length_cons, this]
theorem lead_all : ∀ (L : List Ord), (∀ j, j < L.length → (L.getD j ord0).right = true) → lead L = L.length
  | [], _ => rfl
  | o :: l, h => by
    have h0 : o.right = true := h 0 (by simp)
    have := lead_all l fun j hj => h (j + 1) (by simpa using hj)
    unfold lead at *
    rw [List.takeWhile_cons_of_pos h0, List.length_cons, this, List.length_cons]
set_option maxHeartbeats 2000000 in
theorem index_calls (w : World) (A : Option Addr) (L : List Ord) (c : Nat) (h : ORow w A L) (hl : L.length ≤ 64) :
    Calls Try.prog 62 #[.slice A L.length c, .func (.func 58) #[] #[]] w (Told w (.int .i64 (if lead L = L.length then -1 else (lead L : Int)))) := by
  have H := Lib.hid h
  obtain ⟨m, hm⟩ : ∃ m, Hid (L.length = m) := ⟨_, Lib.hid rfl⟩
  have HR := Lib.hid (fun wx o => wrong_calls wx o)
  have HS := Lib.hid (lead_stop L)
  have HA := Lib.hid (lead_all L)
  obtain ⟨d, hd⟩ : ∃ d, Hid (lead L = d) := ⟨_, Lib.hid rfl⟩
  rw [hm.out] at hl HS HA ⊢
  rw [hd.out] at HS HA ⊢
  obtain ⟨R, hR⟩ : ∃ R, Hid ((if d = m then -1 else (d : Int)) = R) := ⟨_, Lib.hid rfl⟩
  rw [hR.out]
  clear h
  go_enter Try.func62, Try.ntmps62
  go_wp2
  go_loopg [5, 8] (m + 1) (fun gk s5 s8 wr => ∃ i : Nat, gk = m + 1 - i ∧ i ≤ m ∧ s8 = .int .i64 (i : Int) ∧ Hid (∀ j, j < i → (L.getD j ord0).right = true) ∧ Hid (Below w.heap.size w wr))
  case atStart => exact ⟨0, rfl, Nat.zero_le _, rfl, Lib.hid fun j hj => absurd hj (Nat.not_lt_zero _), Lib.hid (Below.refl _ _)⟩
  case round =>
    obtain ⟨i, rfl, hi, rfl, hal, hb⟩ := hrel
    have i0 : (0 : Int) ≤ (i : Int) := by omega
    by_cases hlt : i < m
    · have hltI : (i : Int) < (m : Int) := by omega
      have hlL : Hid (i < L.length) := Lib.hid (by rw [hm.out]; exact hlt)
      obtain ⟨b, o, rfl⟩ : ∃ b o, A = some ⟨b, o, none⟩ := by
        obtain ⟨b, o, e, _⟩ := H.out.cells hlL.out
        exact ⟨b, o, e⟩
      have HC := Lib.hid (fun wx hh => ORow.six H.out hlL.out (w' := wx) hh)
      have HRr := Lib.hid (fun wx => HR.out wx (L.getD i ord0))
      have HSt := Lib.hid (HS.out i hlt hal.out)
      have HNx : Hid ((L.getD i ord0).right = true → ∀ j, j < i + 1 → (L.getD j ord0).right = true) := Lib.hid fun hr j hj => by
        rcases Nat.lt_or_eq_of_le (Nat.le_of_lt_succ hj) with h | h
        · exact hal.out j h
        · rw [h]; exact hr
      have HM := Lib.hid (show m + 1 - (i + 1) < m + 1 - i by omega)
      generalize L.getD i ord0 = q at HC HRr HSt HNx
      obtain ⟨qi, qo, qp, qa, qpl, qb⟩ := q
      unfold oval at HRr
      simp only at HC HRr
      generalize Ord.right ⟨qi, qo, qp, qa, qpl, qb⟩ = r at HRr HSt HNx
      obtain ⟨c0, c1, c2, c3, c4, c5⟩ := HC.out wr hb.out
      cases r with
      | false =>
        have e1 := HSt.out rfl
        subst e1
        have hne : d ≠ m := by omega
        have hR' := hR.out
        rw [if_neg hne] at hR'
        subst hR'
        go_wp2_with (go_at_call 58; (with_reducible refine (HRr.out _).mono ?_); rintro e w1 ⟨rfl, hh⟩; have hb1 := Lib.hid (below_next hb.out hh); clear hh)
        refine bodyPost_ret (by simp [results, Try.results62, asAddr, go_sem]; rfl) rfl ?_
        exact ⟨rfl, hb1.out⟩
      | true =>
        have hn := HNx.out rfl
        have HN := Lib.hid hn
        clear hn
        go_wp2_with (go_at_call 58; (with_reducible refine (HRr.out _).mono ?_); rintro e w1 ⟨rfl, hh⟩; have hb1 := Lib.hid (below_next hb.out hh); clear hh)
        go_roundg (m + 1 - (i + 1))
        case measure => exact HM.out
        case rel => exact ⟨i + 1, rfl, by omega, by go_num, HN, hb1⟩
    · obtain rfl : m = i := by omega
      have e1 := HA.out hal.out
      subst e1
      have hR' := hR.out
      rw [if_pos rfl] at hR'
      subst hR'
      go_wp2
      refine bodyPost_ret (by simp [results, Try.results62, asAddr, go_sem]; rfl) rfl ?_
      exact ⟨rfl, hb.out⟩
end Go.Proofs.Ytilbhnloelgpdaa
namespace Go.Proofs.Ytilbhnloelgpdaa
open Go.RowKit
set_option linter.unusedVariables false
set_option linter.unusedSimpArgs false
/-- xs, from p on vs. -/
def over (xs : List Value) (p : Nat) (vs : List Value) : List Value := xs.take p ++ vs ++ xs.drop (p + vs.length)
theorem over_length {xs vs : List Value} {p : Nat} (h : p + vs.length ≤ xs.length) : (over xs p vs).length = xs.length := by
  unfold over
  rw [List.length_append, List.length_append, List.length_take, List.length_drop]; omega
theorem over_in {xs vs : List Value} {p j : Nat} (h : p + vs.length ≤ xs.length) (hj : j < vs.length) : (over xs p vs)[p + j]? = vs[j]? := by
  unfold over
  rw [List.append_assoc, List.getElem?_append_right (by rw [List.length_take]; omega), List.length_take, Nat.min_eq_left (by omega), Nat.add_sub_cancel_left, List.getElem?_append_left hj]
theorem over_out {xs vs : List Value} {p j : Nat} (h : p + vs.length ≤ xs.length) (hj : j < p ∨ p + vs.length ≤ j) : (over xs p vs)[j]? = xs[j]? := by
  unfold over
  rcases hj with hj | hj
  · rw [List.append_assoc, List.getElem?_append_left (by rw [List.length_take]; omega), List.getElem?_take_of_lt hj]
  · rw [List.getElem?_append_right (by rw [List.length_append, List.length_take]; omega), List.length_append, List.length_take, Nat.min_eq_left (by omega), List.getElem?_drop]
    congr 1; omega
section
variable {w0 w : World} {sz n : Nat} {xs : List Value}
theorem Mine.over {A : Option Addr} {c : Nat} (h : Mine w0 w sz (.slice A n c) n xs) {p : Nat} {vs : List Value} (hp : p + vs.length ≤ n * sz) (hv : 0 < vs.length) :
    ∃ g off, A = some ⟨g, off, none⟩ ∧ w0.heap.size ≤ g ∧ (∀ j, j < vs.length → (w.cell? ⟨g, off + p + j, none⟩).isSome = true ∧ w.frozen? ⟨g, off + p + j, none⟩ = false) ∧ Mine w0 (w.setCells g (off + p) vs) sz (.slice A n c) n (over xs p vs) := by
  obtain ⟨b, ⟨h0, A', c', heq, h1, h2, h3⟩, hb⟩ := h
  cases heq
  have hnc : n * sz ≤ c * sz := Nat.mul_le_mul_right _ h1
  rcases h3 with ⟨_, h4⟩ | ⟨g, off, rfl, rfl, hg, h5, h6⟩
  · subst h4
    rw [Nat.zero_mul] at hnc
    omega
  · have hc : ∀ j, j < vs.length → (w.cell? ⟨g, off + p + j, none⟩).isSome = true ∧ w.frozen? ⟨g, off + p + j, none⟩ = false := fun j hj => by
      rw [Nat.add_assoc]; exact h5 (p + j) (by omega)
    have hk := World.keptBut_setCells g (may := fun _ => True) vs (off + p) w fun _ _ => trivial
    refine ⟨g, off, rfl, hb g rfl, hc, some g, ⟨by rw [over_length (by omega)]; exact h0, _, _, rfl, h1, h2, .inr ⟨g, off, rfl, rfl, Nat.lt_of_lt_of_le hg hk.size, fun i hi => ⟨World.isSome_setCells _ _ _ _ _ (h5 i hi).1, by rw [World.frozen?_setCells]; exact (h5 i hi).2⟩, fun i hi => ?_⟩⟩, hb⟩
    by_cases hin : p ≤ i ∧ i < p + vs.length
    · have := World.cell?_setCells_in g vs (off + p) w (fun j hj => (hc j hj).1) (i - p) (by omega)
      rw [show off + p + (i - p) = off + i from by omega] at this
      have e := over_in (xs := xs) (vs := vs) (p := p) (j := i - p) (by omega) (by omega)
      rw [show p + (i - p) = i from by omega] at e
      rw [this, e, List.getElem?_eq_getElem (by omega)]
    · rw [World.cell?_setCells_out g vs (off + p) w ⟨g, off + i, none⟩ (fun _ _ => by show off + i < _ ∨ _ ≤ off + i; omega), over_out (by omega) (by omega)]
      exact h6 i hi
end
theorem zeroCells_mem {zero : Array Value} {n : Nat} : ∀ v ∈ (Builtin.zeroCells zero n).toList, v ∈ zero.toList := by
  intro v hv
  unfold Builtin.zeroCells at hv
  simp only [Array.toList_map, List.mem_map] at hv
  obtain ⟨i, hi, rfl⟩ := hv
  have hi' : i < n * zero.size := by simpa using hi
  have hz : 0 < zero.size := by
    rcases Nat.eq_zero_or_pos zero.size with h | h
    · rw [h] at hi'; omega
    · exact h
  rw [getElem!_pos zero (i % zero.size) (Nat.mod_lt _ hz)]
  simp
theorem zeroCells_length (zero : Array Value) (n : Nat) : (Builtin.zeroCells zero n).toList.length = n * zero.size := by simp [Builtin.zeroCells]
/-- clear at n elements of whatever size. -/
theorem run_clear_rows {P : Program} (w : World) (t e ty : TypeId) (z : Value) (ht : P.underlying t = some (.slice e)) (hv : ∀ w, (zeroValue e).run P w = .ok z w) (h1 : ∀ u ∈ z.cells.toList, u.oneCell' = true) (b o n c : Nat) (hn : 0 < n)
    (hc : ∀ j, j < n * z.cells.size → (w.cell? ⟨b, o + j, none⟩).isSome = true ∧ w.frozen? ⟨b, o + j, none⟩ = false) :
    (Builtin.clear_ #[t] ty #[.slice (some ⟨b, o, none⟩) n c]).run P w = .ok (.tuple #[]) (w.setCells b o (Builtin.zeroCells z.cells n).toList) := by
  have hst := run_storeCells_cells (P := P) b o (Builtin.zeroCells z.cells n).toList 0 w (fun j hj => (hc j (by rwa [zeroCells_length] at hj)).1) (fun j hj => (hc j (by rwa [zeroCells_length] at hj)).2) (fun v hv' => h1 v (zeroCells_mem v hv'))
  simp only [Nat.add_zero] at hst
  obtain ⟨m, rfl⟩ : ∃ m, n = m + 1 := ⟨n - 1, by omega⟩
  simp [Builtin.clear_, run_underlying ht, hv, hst]
end Go.Proofs.Ytilbhnloelgpdaa
namespace Go.Proofs.Ytilbhnloelgpdaa
open Go.RowKit
set_option linter.unusedVariables false
set_option linter.unusedSimpArgs false
theorem over_ocells (F : List Ord) {i : Nat} (h : i < F.length) (o : Ord) : over (ocells F) (i * 6) (ocell o) = ocells (F.set i o) := by
  have e : F = F.take i ++ F[i] :: F.drop (i + 1) := by rw [← List.drop_eq_getElem_cons h, List.take_append_drop]
  have e1 : (ocells (F.take i)).length = i * 6 := by rw [ocells_length, List.length_take, Nat.min_eq_left (by omega)]
  have e2 : ocells F = ocells (F.take i) ++ (ocell F[i] ++ ocells (F.drop (i + 1))) := by
    conv => lhs; rw [e]
    rw [ocells_append]; rfl
  have e3 : F.set i o = F.take i ++ o :: F.drop (i + 1) := by rw [List.set_eq_take_append_cons_drop, if_pos h]
  unfold over
  rw [e3, ocells_append, e2, ocell_length, List.take_append_of_le_length (by omega), List.take_of_length_le (by omega), List.drop_append, List.drop_of_length_le (by omega), e1, Nat.add_sub_cancel_left, List.nil_append, List.append_assoc]
  rfl
theorem mem_tw : ∀ {L : List Ord} {o : Ord}, o ∈ L.takeWhile Ord.right → o.right = true
  | [], o, h => by simp at h
  | q :: l, o, h => by
    by_cases hq : q.right = true
    · rw [List.takeWhile_cons_of_pos hq, List.mem_cons] at h
      rcases h with h | h
      · rw [h]; exact hq
      · exact mem_tw h
    · rw [List.takeWhile_cons_of_neg hq] at h; simp at h
theorem only_setCells (w : World) (g o : Nat) (vs : List Value) : Only (fun b => b = g) w (w.setCells g o vs) := by
  induction vs generalizing o w with
  | nil => exact Only.refl _ _
  | cons v r ih =>
    rw [World.setCells]
    exact ((Only.refl (fun b => b = g) w).setCell (g := g) (j := o) (.inl rfl) v).trans (ih (w.setCell ⟨g, o, none⟩ v) (o + 1)) fun b hb => .inl hb
theorem mine_front {w0 w : World} {b o m c i : Nat} {F : List Ord} {zs : List Value} (h : Mine w0 w 6 (.slice (some ⟨b, o, none⟩) m c) m (over (ocells F) (i * 6) zs)) (hF : F.length = m) (hi : i < m) (hmc : m ≤ c) : Mine w0 w 6 (.slice (some ⟨b, o, none⟩) i c) i (ocells (F.take i)) := by
  have h1 := h.cut (l := 0) (r := i) (Nat.zero_le _) (Nat.le_of_lt hi)
  rw [if_neg (by omega)] at h1
  have e1 : (ocells (F.take i)).length = i * 6 := by rw [ocells_length, List.length_take, Nat.min_eq_left (by omega)]
  have e : ((over (ocells F) (i * 6) zs).drop (0 * 6)).take ((i - 0) * 6) = ocells (F.take i) := by
    have e2 : ocells F = ocells (F.take i) ++ ocells (F.drop i) := by rw [← ocells_append, List.take_append_drop]
    unfold over
    rw [Nat.zero_mul, List.drop_zero, Nat.sub_zero, List.append_assoc, e2, List.take_append_of_le_length (l₁ := ocells (F.take i)) (by omega), List.take_of_length_le (l := ocells (F.take i)) (by omega), List.take_append_of_le_length (by omega), List.take_of_length_le (by omega)]
  rw [e] at h1
  simpa [Addr.add] using h1
structure DInv (L F : List Ord) (i j : Nat) : Prop where
  len : F.length = L.length
  front : F.take i = (L.take j).filter Ord.right
  back : F.drop j = L.drop j
  lt : i < j
theorem lead_front : ∀ (L : List Ord) (j : Nat), j < lead L → (L.getD j ord0).right = true
  | [], j, h => by simp [lead] at h
  | o :: l, j, h => by
    unfold lead at h
    by_cases ho : o.right = true
    · rw [List.takeWhile_cons_of_pos ho, List.length_cons] at h
      cases j with
      | zero => exact ho
      | succ j => exact lead_front l j (by unfold lead; omega)
    · rw [List.takeWhile_cons_of_neg ho] at h; simp at h
theorem take_lead (L : List Ord) : L.take (lead L) = L.takeWhile Ord.right := by
  induction L with
  | nil => rfl
  | cons o l ih =>
    unfold lead at *
    by_cases ho : o.right = true
    · rw [List.takeWhile_cons_of_pos ho, List.length_cons, List.take_succ_cons, ih]
    · rw [List.takeWhile_cons_of_neg ho]; rfl
theorem lead_wrong : ∀ (L : List Ord), lead L < L.length → (L.getD (lead L) ord0).right = false
  | [], h => by simp [lead] at h
  | o :: l, h => by
    by_cases ho : o.right = true
    · have e : lead (o :: l) = lead l + 1 := by unfold lead; rw [List.takeWhile_cons_of_pos ho, List.length_cons]
      rw [e] at h ⊢
      exact lead_wrong l (by simpa using h)
    · have e : lead (o :: l) = 0 := by unfold lead; rw [List.takeWhile_cons_of_neg ho]; rfl
      rw [e]; simpa using ho
theorem filter_whole {L : List Ord} (h : lead L = L.length) : L.filter Ord.right = L := by
  have h1 := take_lead L
  rw [h, List.take_length] at h1
  rw [List.filter_eq_self]
  intro o ho
  rw [h1] at ho
  exact mem_tw ho
theorem DInv.start {L : List Ord} (h : lead L < L.length) : DInv L L (lead L) (lead L + 1) := by
  refine ⟨rfl, ?_, rfl, Nat.lt_succ_self _⟩
  rw [Ca.take_at L h, List.filter_append, Ca.filter_one, lead_wrong L h, if_neg (by simp), List.append_nil, take_lead]
  exact (List.filter_eq_self.2 fun o ho => mem_tw ho).symm
theorem DInv.at_ {L F : List Ord} {i j : Nat} (h : DInv L F i j) (hj : j < L.length) : F.getD j ord0 = L.getD j ord0 := by
  have e := congrArg (fun l => l.getD 0 ord0) h.back
  simpa [List.getD_eq_getElem?_getD, List.getElem?_drop] using e
theorem DInv.wrong {L F : List Ord} {i j : Nat} (h : DInv L F i j) (hj : j < L.length) (hr : (L.getD j ord0).right = false) : DInv L F i (j + 1) := by
  refine ⟨h.len, ?_, ?_, Nat.lt_succ_of_lt h.lt⟩
  · rw [Ca.take_at L hj, List.filter_append, Ca.filter_one, hr, if_neg (by simp), List.append_nil]; exact h.front
  · have e := congrArg (List.drop 1) h.back
    simpa [List.drop_drop] using e
theorem DInv.next {L F : List Ord} {i j : Nat} (h : DInv L F i j) (hj : j < L.length) (hr : (L.getD j ord0).right = true) : DInv L (F.set i (L.getD j ord0)) (i + 1) (j + 1) := by
  have hl := h.len
  have hle := h.lt
  refine ⟨by rw [List.length_set]; exact hl, ?_, ?_, Nat.succ_lt_succ hle⟩
  · rw [Ca.take_at L hj, List.filter_append, Ca.filter_one, if_pos hr, ← h.front]
    have hi : i < (F.set i (L.getD j ord0)).length := by rw [List.length_set]; omega
    rw [List.take_succ_eq_append_getElem hi, List.getElem_set_self, List.take_set_of_le (Nat.le_refl _)]
  · have e := congrArg (List.drop 1) h.back
    rw [List.drop_set_of_lt (by omega)]
    simpa [List.drop_drop] using e
theorem DInv.done {L F : List Ord} {i : Nat} (h : DInv L F i L.length) : F.take i = L.filter Ord.right ∧ (L.filter Ord.right).length = i := by
  have h1 := h.front
  rw [List.take_length] at h1
  refine ⟨h1, ?_⟩
  rw [← h1, List.length_take, h.len]
  have := h.lt
  omega
/-- The list R is left, in a row made behind w0. -/
def Left (w0 : World) (R : List Ord) (e : Ending) (w' : World) : Prop := ∃ A c, e = .returned (.slice A R.length c) ∧ Mine w0 w' 6 (.slice A R.length c) R.length (ocells R) ∧ Below w0.heap.size w0 w'
set_option maxHeartbeats 4000000 in
set_option maxRecDepth 100000 in
theorem delete_calls (w0 w : World) (A : Option Addr) (L : List Ord) (c : Nat) (h : Mine w0 w 6 (.slice A L.length c) L.length (ocells L)) (hb0 : Below w0.heap.size w0 w) (hl : L.length ≤ 64) :
    Calls Try.prog 44 #[.slice A L.length c, .func (.func 58) #[] #[]] w (Left w0 (L.filter Ord.right)) := by
  have H := Lib.hid h
  have HB0 := Lib.hid hb0
  obtain ⟨m, hm⟩ : ∃ m, Hid (L.length = m) := ⟨_, Lib.hid rfl⟩
  have HI : Hid (∀ wx, Below w.heap.size w wx → Calls Try.prog 62 #[.slice A m c, .func (.func 58) #[] #[]] wx (Told wx (.int .i64 (if lead L = m then -1 else (lead L : Int))))) := Lib.hid fun wx hx => by
    have := index_calls wx A L c ((h.orow rfl).2.below hx) hl
    rwa [hm.out] at this
  obtain ⟨d, hd⟩ : ∃ d, Hid (lead L = d) := ⟨_, Lib.hid rfl⟩
  rw [hd.out] at HI
  rw [hm.out] at hl ⊢
  have HdL := Lib.hid (lead_le L)
  rw [hd.out, hm.out] at HdL
  have hdl := HdL.out
  clear h hb0
  by_cases hdm : d = m
  · have HI2 : Hid (∀ wx, Below w.heap.size w wx → Calls Try.prog 62 #[.slice A m c, .func (.func 58) #[] #[]] wx (Told wx (.int .i64 (-1)))) := Lib.hid fun wx hx => by
      have := HI.out wx hx
      rwa [if_pos hdm] at this
    have hf : Hid (L.filter Ord.right = L) := Lib.hid (filter_whole (by rw [hd.out, hm.out]; exact hdm))
    rw [hf.out]
    clear HI
    go_enter Try.func44, Try.ntmps44
    go_wp2_with (go_at_call 62; (with_reducible refine (HI2.out _ (Below.refl _ _)).mono ?_); rintro e w1 ⟨rfl, hh⟩; have hb1 := Lib.hid hh; clear hh)
    refine bodyPost_ret (by simp [results, Try.results44, asAddr, go_sem]; rfl) rfl ?_
    have hz := H.out.below hb1.out
    exact ⟨A, c, by rw [hm.out], hz, HB0.out.trans (hb1.out.mono HB0.out.size)⟩
  have HI2 : Hid (∀ wx, Below w.heap.size w wx → Calls Try.prog 62 #[.slice A m c, .func (.func 58) #[] #[]] wx (Told wx (.int .i64 (d : Int)))) := Lib.hid fun wx hx => by
    have := HI.out wx hx
    rwa [if_neg hdm] at this
  have hd1 : d + 1 ≤ m := by omega
  have HSt : Hid (DInv L L d (d + 1)) := Lib.hid (by
    have := DInv.start (L := L) (by rw [hd.out, hm.out]; omega)
    rwa [hd.out] at this)
  have hdB : ((d : Int) == -1) = false := by
    rw [beq_eq_false_iff_ne]; omega
  have d0 : (0 : Int) ≤ (d : Int) := by omega
  have q0 : IntKind.i64.wrap ((d : Int) + 1) = (d : Int) + 1 := by rw [IntKind.wrap_i64]; omega
  have HR := Lib.hid (fun wx o => wrong_calls wx o)
  clear HI
  go_enter Try.func44, Try.ntmps44
  go_upto_region 5 with (go_at_call 62; (with_reducible refine (HI2.out _ (Below.refl _ _)).mono ?_); rintro e w1 ⟨rfl, hh⟩; have hb1 := Lib.hid hh; clear hh)
  go_loopg [5, 6] (m + 1 - (d + 1)) (fun gk s5 s6 wr => ∃ (i j : Nat) (F : List Ord), gk = m + 1 - j ∧ j ≤ m ∧ s5 = .int .i64 (i : Int) ∧ s6 = .int .i64 (j : Int) ∧ Hid (DInv L F i j) ∧ Hid (Mine w0 wr 6 (.slice A m c) m (ocells F)) ∧ Hid (Below w0.heap.size w0 wr))
  case atStart => exact ⟨d, d + 1, L, rfl, hd1, rfl, by go_num, HSt, Lib.hid (by have := H.out.below hb1.out; rwa [hm.out] at this), Lib.hid (HB0.out.trans (hb1.out.mono HB0.out.size))⟩
  case round =>
    obtain ⟨i, j, F, rfl, hj, rfl, rfl, hI, hF, hb⟩ := hrel
    have i0 : (0 : Int) ≤ (i : Int) := by omega
    have j0 : (0 : Int) ≤ (j : Int) := by omega
    have hij := hI.out.lt
    have hFl : Hid (F.length = m) := Lib.hid (by rw [hI.out.len, hm.out])
    by_cases hlt : j < m
    · have hltI : (j : Int) < (m : Int) := by omega
      have him : (i : Int) < (m : Int) := by omega
      have hOF : Hid (ORow wr A F) := Lib.hid (hF.out.orow hFl.out).2
      have hlF : Hid (j < F.length) := Lib.hid (by rw [hFl.out]; exact hlt)
      have hlL : Hid (j < L.length) := Lib.hid (by rw [hm.out]; exact hlt)
      obtain ⟨b, o, rfl⟩ : ∃ b o, A = some ⟨b, o, none⟩ := by
        obtain ⟨b, o, e, _⟩ := hOF.out.cells hlF.out
        exact ⟨b, o, e⟩
      have HC := Lib.hid (fun wx hh => ORow.six hOF.out hlF.out (w' := wx) hh)
      have HRr := Lib.hid (fun wx => HR.out wx (L.getD j ord0))
      have hBad := Lib.hid (hI.out.wrong hlL.out)
      have hNx := Lib.hid (hI.out.next hlL.out)
      have HM := Lib.hid (show m + 1 - (j + 1) < m + 1 - j by omega)
      rw [hI.out.at_ hlL.out] at HC
      generalize L.getD j ord0 = q at HC hBad hNx HRr
      obtain ⟨qi, qo, qp, qa, qpl, qb⟩ := q
      unfold oval at HRr
      simp only at HC HRr
      have hRq := Lib.hid (rfl : Ord.right ⟨qi, qo, qp, qa, qpl, qb⟩ = Ord.right ⟨qi, qo, qp, qa, qpl, qb⟩)
      obtain ⟨c0, c1, c2, c3, c4, c5⟩ := HC.out wr (Below.refl _ _)
      generalize Ord.right ⟨qi, qo, qp, qa, qpl, qb⟩ = r at hBad hNx HRr hRq
      cases r with
      | false =>
        have e1 := Lib.hid (hBad.out rfl)
        clear hNx hBad
        go_upto_region 8 with (fail)
        have hbA : Hid (Below wr.heap.size wr (wr.alloc (.cells #[.int .i64 qi, .int .i64 qo, .int .i64 qp, .int .i64 qa, .int .i64 qpl, .bool qb] 33))) := Lib.hid ((Below.refl _ _).alloc (Nat.le_refl _) _)
        have BA := Lib.hid (Blk.new wr 33 #[.int .i64 qi, .int .i64 qo, .int .i64 qp, .int .i64 qa, .int .i64 qpl, .bool qb])
        obtain ⟨g, hg⟩ : ∃ g, Hid (wr.heap.size = g) := ⟨_, Lib.hid rfl⟩
        rw [hg.out] at BA ⊢
        generalize World.alloc wr _ = wy at hbA BA ⊢
        clear c0 c1 c2 c3 c4 c5
        have HX : Hid (∀ wx, Below wy.heap.size wy wx → (wx.cell? ⟨g, 0, none⟩ = some (.int .i64 qi) ∧ wx.cell? ⟨g, 1, none⟩ = some (.int .i64 qo) ∧ wx.cell? ⟨g, 2, none⟩ = some (.int .i64 qp) ∧ wx.cell? ⟨g, 3, none⟩ = some (.int .i64 qa) ∧ wx.cell? ⟨g, 4, none⟩ = some (.int .i64 qpl) ∧ wx.cell? ⟨g, 5, none⟩ = some (.bool qb))) := Lib.hid fun wx hh => by
          have b0 := BA.out.below hh BA.out.lt
          exact ⟨b0.cell 0, b0.cell 1, b0.cell 2, b0.cell 3, b0.cell 4, b0.cell 5⟩
        have hF2 : Hid (Mine w0 wy 6 (.slice (some ⟨b, o, none⟩) m c) m (ocells F)) := Lib.hid (hF.out.below hbA.out)
        have hbb : Hid (Below w0.heap.size w0 wy) := Lib.hid (hb.out.trans (hbA.out.mono hb.out.size))
        obtain ⟨c0, c1, c2, c3, c4, c5⟩ := HX.out wy (Below.refl _ _)
        go_wp2_with (go_at_call 58; (with_reducible refine (HRr.out _).mono ?_); rintro e w2 ⟨rfl, hh⟩; have hb2 := Lib.hid hh; clear hh)
        go_roundg (m + 1 - (j + 1))
        case measure => exact HM.out
        case rel => exact ⟨i, j + 1, F, rfl, by omega, rfl, by go_num, e1, Lib.hid (hF2.out.below hb2.out), Lib.hid (hbb.out.trans (hb2.out.mono hbb.out.size))⟩
      | true =>
        have e1 := Lib.hid (hNx.out rfl)
        clear hNx hBad
        go_upto_region 8 with (fail)
        have hbA : Hid (Below wr.heap.size wr (wr.alloc (.cells #[.int .i64 qi, .int .i64 qo, .int .i64 qp, .int .i64 qa, .int .i64 qpl, .bool qb] 33))) := Lib.hid ((Below.refl _ _).alloc (Nat.le_refl _) _)
        have BA := Lib.hid (Blk.new wr 33 #[.int .i64 qi, .int .i64 qo, .int .i64 qp, .int .i64 qa, .int .i64 qpl, .bool qb])
        obtain ⟨g, hg⟩ : ∃ g, Hid (wr.heap.size = g) := ⟨_, Lib.hid rfl⟩
        rw [hg.out] at BA ⊢
        generalize World.alloc wr _ = wy at hbA BA ⊢
        clear c0 c1 c2 c3 c4 c5
        have HX : Hid (∀ wx, Below wy.heap.size wy wx → (wx.cell? ⟨g, 0, none⟩ = some (.int .i64 qi) ∧ wx.cell? ⟨g, 1, none⟩ = some (.int .i64 qo) ∧ wx.cell? ⟨g, 2, none⟩ = some (.int .i64 qp) ∧ wx.cell? ⟨g, 3, none⟩ = some (.int .i64 qa) ∧ wx.cell? ⟨g, 4, none⟩ = some (.int .i64 qpl) ∧ wx.cell? ⟨g, 5, none⟩ = some (.bool qb))) := Lib.hid fun wx hh => by
          have b0 := BA.out.below hh BA.out.lt
          exact ⟨b0.cell 0, b0.cell 1, b0.cell 2, b0.cell 3, b0.cell 4, b0.cell 5⟩
        have hF2 : Hid (Mine w0 wy 6 (.slice (some ⟨b, o, none⟩) m c) m (ocells F)) := Lib.hid (hF.out.below hbA.out)
        have hbb : Hid (Below w0.heap.size w0 wy) := Lib.hid (hb.out.trans (hbA.out.mono hb.out.size))
        obtain ⟨c0, c1, c2, c3, c4, c5⟩ := HX.out wy (Below.refl _ _)
        go_upto_region 9 with (go_at_call 58; (with_reducible refine (HRr.out _).mono ?_); rintro e w2 ⟨rfl, hh⟩; have hb2 := Lib.hid hh; clear hh)
        clear c0 c1 c2 c3 c4 c5
        obtain ⟨c0, c1, c2, c3, c4, c5⟩ := HX.out w2 hb2.out
        have hF3 : Hid (Mine w0 w2 6 (.slice (some ⟨b, o, none⟩) m c) m (ocells F)) := Lib.hid (hF2.out.below hb2.out)
        have hbc : Hid (Below w0.heap.size w0 w2) := Lib.hid (hbb.out.trans (hb2.out.mono hbb.out.size))
        obtain ⟨g', off', he, hg', hce, hMi⟩ := hF3.out.over (p := i * 6) (vs := ocell ⟨qi, qo, qp, qa, qpl, qb⟩) (by rw [ocell_length]; omega) (by rw [ocell_length]; omega)
        cases he
        rw [over_ocells F (by rw [hFl.out]; omega)] at hMi
        have s0 := hce 0 (by rw [ocell_length]; omega)
        have s1 := hce 1 (by rw [ocell_length]; omega)
        have s2 := hce 2 (by rw [ocell_length]; omega)
        have s3 := hce 3 (by rw [ocell_length]; omega)
        have s4 := hce 4 (by rw [ocell_length]; omega)
        have s5 := hce 5 (by rw [ocell_length]; omega)
        clear hce
        obtain ⟨s0, f0⟩ := s0
        obtain ⟨x0, s0⟩ := Option.isSome_iff_exists.1 s0
        obtain ⟨s1, f1⟩ := s1
        obtain ⟨x1, s1⟩ := Option.isSome_iff_exists.1 s1
        obtain ⟨s2, f2⟩ := s2
        obtain ⟨x2, s2⟩ := Option.isSome_iff_exists.1 s2
        obtain ⟨s3, f3⟩ := s3
        obtain ⟨x3, s3⟩ := Option.isSome_iff_exists.1 s3
        obtain ⟨s4, f4⟩ := s4
        obtain ⟨x4, s4⟩ := Option.isSome_iff_exists.1 s4
        obtain ⟨s5, f5⟩ := s5
        obtain ⟨x5, s5⟩ := Option.isSome_iff_exists.1 s5
        rw [Nat.add_zero] at s0 f0
        have HMi : Hid (Mine w0 ((((((w2.setCell ⟨b, o + i * 6, none⟩ (.int .i64 qi)).setCell ⟨b, o + i * 6 + 1, none⟩ (.int .i64 qo)).setCell ⟨b, o + i * 6 + 2, none⟩ (.int .i64 qp)).setCell ⟨b, o + i * 6 + 3, none⟩ (.int .i64 qa)).setCell ⟨b, o + i * 6 + 4, none⟩ (.int .i64 qpl)).setCell ⟨b, o + i * 6 + 5, none⟩ (.bool qb)) 6 (.slice (some ⟨b, o, none⟩) m c) m (ocells (F.set i ⟨qi, qo, qp, qa, qpl, qb⟩))) := Lib.hid hMi
        have HBi : Hid (Below w0.heap.size w0 ((((((w2.setCell ⟨b, o + i * 6, none⟩ (.int .i64 qi)).setCell ⟨b, o + i * 6 + 1, none⟩ (.int .i64 qo)).setCell ⟨b, o + i * 6 + 2, none⟩ (.int .i64 qp)).setCell ⟨b, o + i * 6 + 3, none⟩ (.int .i64 qa)).setCell ⟨b, o + i * 6 + 4, none⟩ (.int .i64 qpl)).setCell ⟨b, o + i * 6 + 5, none⟩ (.bool qb))) := Lib.hid ((((((hbc.out.setCell (p := ⟨b, _, none⟩) hg' _).setCell (p := ⟨b, _, none⟩) hg' _).setCell (p := ⟨b, _, none⟩) hg' _).setCell (p := ⟨b, _, none⟩) hg' _).setCell (p := ⟨b, _, none⟩) hg' _).setCell (p := ⟨b, _, none⟩) hg' _)
        clear hMi
        go_wp2
        go_roundg (m + 1 - (j + 1))
        case measure => exact HM.out
        case rel => exact ⟨i + 1, j + 1, F.set i ⟨qi, qo, qp, qa, qpl, qb⟩, rfl, by omega, by go_num, by go_num, e1, HMi, HBi⟩
    · obtain rfl : m = j := by omega
      have him : i < m := hij
      have hFF := hI.out
      have hdn : Hid (F.take i = L.filter Ord.right ∧ (L.filter Ord.right).length = i) := Lib.hid (by
        have h1 := hI.out
        rw [← hm.out] at h1
        exact h1.done)
      obtain ⟨gg, off, he, hgg, hce, hMi⟩ := hF.out.over (p := i * 6) (vs := (Builtin.zeroCells #[.int .i64 0, .int .i64 0, .int .i64 0, .int .i64 0, .int .i64 0, .bool false] (m - i)).toList) (by rw [zeroCells_length]; simp; omega) (by rw [zeroCells_length]; simp; omega)
      subst he
      have imI : (i : Int) ≤ (m : Int) := by omega
      have hcm := (hF.out.orow hFl.out).1
      have mcI : (m : Int) ≤ (c : Int) := by omega
      have hcl : ∀ cc, (Builtin.clear_ #[22] 0 #[.slice (some ⟨gg, off + i * 6, none⟩) (m - i) cc]).run Try.prog wr = .ok (.tuple #[]) (wr.setCells gg (off + i * 6) (Builtin.zeroCells #[.int .i64 0, .int .i64 0, .int .i64 0, .int .i64 0, .int .i64 0, .bool false] (m - i)).toList) := fun cc => by
        refine run_clear_rows wr _ _ 0 (.agg #[.int .i64 0, .int .i64 0, .int .i64 0, .int .i64 0, .int .i64 0, .bool false]) Try.underlying22 (fun wx => ?_) (by decide) gg _ (m - i) cc (by omega) fun k hk => hce k (by rw [zeroCells_length]; exact hk)
        obtain ⟨i1, hi1, hy0, _, _⟩ := info_parts info_order
        simp [zeroValue]
        rfl
      have HBz : Hid (Below w0.heap.size w0 (wr.setCells gg (off + i * 6) (Builtin.zeroCells #[.int .i64 0, .int .i64 0, .int .i64 0, .int .i64 0, .int .i64 0, .bool false] (m - i)).toList)) := Lib.hid ((Only.of_below (S := fun b => b = gg) hb.out).trans (only_setCells _ _ _ _) (fun x hx => .inl hx) |>.below (Nat.le_refl _) fun x hx => hx ▸ hgg)
      generalize wr.setCells gg _ _ = wz at hcl hMi HBz
      have HMz := Lib.hid hMi
      clear hMi hce
      go_upto_region 11 with (fail)
      go_wp2
      refine bodyPost_ret (by simp [results, Try.results44, asAddr, go_sem]; rfl) rfl ?_
      have hfin := mine_front HMz.out hFl.out him hcm
      rw [hdn.out.1] at hfin
      exact ⟨some ⟨gg, off, none⟩, c, by rw [hdn.out.2], by rw [hdn.out.2]; exact hfin, HBz.out⟩
end Go.Proofs.Ytilbhnloelgpdaa
namespace Go.Proofs.Ytilbhnloelgpdaa
open Go.RowKit
set_option linter.unusedVariables false
set_option linter.unusedSimpArgs false
set_option maxHeartbeats 2000000 in
set_option maxRecDepth 100000 in
theorem rights_calls (w : World) (A : Option Addr) (L : List Ord) (c : Nat) (h : ORow w A L) :
    Calls Try.prog 36 #[.slice A L.length c] w (Left w (Ca.rights L)) := by
  have H := Lib.hid h
  obtain ⟨m, hm⟩ : ∃ m, Hid (L.length = m) := ⟨_, Lib.hid rfl⟩
  by_cases hl : 64 < m
  · have E : Hid (Ca.rights L = []) := Lib.hid (by unfold Ca.rights; rw [if_pos (by rw [hm.out]; exact hl)])
    rw [E.out, hm.out]
    have hlI : (64 : Int) < (m : Int) := by omega
    clear h
    go_enter Try.func36, Try.ntmps36
    go_wp2
    refine bodyPost_ret (by simp [results, Try.results36, asAddr, go_sem]; rfl) rfl ?_
    exact ⟨none, 0, rfl, Mine.empty _ _ _ _, Below.refl _ _⟩
  have E : Hid (Ca.rights L = L.filter Ord.right) := Lib.hid (by unfold Ca.rights; rw [if_neg (by rw [hm.out]; exact hl)])
  have hl2 : Hid (L.length ≤ 64) := Lib.hid (by rw [hm.out]; omega)
  have HC := Lib.hid (clone_calls w A L c h hl2.out)
  have HD := Lib.hid (fun wx A2 c2 (h2 : Mine w wx 6 (.slice A2 L.length c2) L.length (ocells L)) hb => delete_calls w wx A2 L c2 h2 hb hl2.out)
  rw [E.out]
  rw [hm.out] at HC HD ⊢
  have hlI : ¬ (64 : Int) < (m : Int) := by omega
  clear h
  go_enter Try.func36, Try.ntmps36
  go_wp2_with (first
    | (go_at_call 42; (with_reducible refine HC.out.mono ?_); rintro e w1 ⟨A1, c1, rfl, hz1, hb1⟩; rw [hm.out] at hz1 ⊢; have HZ := Lib.hid hz1; have HB := Lib.hid hb1; clear hz1 hb1)
    | (go_at_call 44; (with_reducible refine (HD.out _ _ _ HZ.out HB.out).mono ?_); rintro e w2 ⟨A2, c2, rfl, hz2, hb2⟩; have HZ2 := Lib.hid hz2; have HB2 := Lib.hid hb2; clear hz2 hb2))
  refine bodyPost_ret (by simp [results, Try.results36, asAddr, go_sem]; rfl) rfl ?_
  exact ⟨A2, c2, rfl, HZ2.out, HB2.out⟩
end Go.Proofs.Ytilbhnloelgpdaa
namespace Go.Proofs.Ytilbhnloelgpdaa
namespace Ca
def bx (R : List Ord) (p : Int) (k : Nat) : Int := bought (R.take k) p
def sx (R : List Ord) (p : Int) (k : Nat) : Int := sold (R.take k) p
def fx (R : List Ord) (k : Nat) : Int × Int := (R.take k).foldl (crossStep R) (0, 0)
theorem bx_next (R : List Ord) (p : Int) {k : Nat} (h : k < R.length) : bx R p (k + 1) = bx R p k + (if (R.getD k ord0).buys = true ∧ p ≤ (R.getD k ord0).price then (R.getD k ord0).amount else 0) := by
  unfold bx
  rw [take_at R h, bought_append, bought_one]
theorem sx_next (R : List Ord) (p : Int) {k : Nat} (h : k < R.length) : sx R p (k + 1) = sx R p k + (if (R.getD k ord0).buys = false ∧ (R.getD k ord0).price ≤ p then (R.getD k ord0).amount else 0) := by
  unfold sx
  rw [take_at R h, sold_append, sold_one]
theorem bx_zero (R : List Ord) (p : Int) : bx R p 0 = 0 ∧ sx R p 0 = 0 := by unfold bx sx; simp [bought, sold]
theorem bx_all (R : List Ord) (p : Int) : min (bx R p R.length) (sx R p R.length) = traded R p := by
  unfold bx sx traded
  rw [List.take_length]
theorem bx_bound {R : List Ord} (h : ∀ o ∈ R, 1 ≤ o.amount ∧ o.amount ≤ 1048576) (p : Int) (k : Nat) : 0 ≤ bx R p k ∧ bx R p k ≤ 1048576 * k ∧ 0 ≤ sx R p k ∧ sx R p k ≤ 1048576 * k := by
  have ht : ∀ o ∈ R.take k, 1 ≤ o.amount ∧ o.amount ≤ 1048576 := fun o ho => h o (List.mem_of_mem_take ho)
  have h1 := bought_bound ht p
  have h2 := sold_bound ht p
  have h3 : (R.take k).length ≤ k := by rw [List.length_take]; omega
  have h4 : ((R.take k).length : Int) ≤ k := by omega
  exact ⟨bought_nonneg (fun o ho => (ht o ho).1) p, by unfold bx; omega, sold_nonneg (fun o ho => (ht o ho).1) p, by unfold sx; omega⟩
theorem fx_zero (R : List Ord) : fx R 0 = (0, 0) := by unfold fx; simp
theorem fx_next (R : List Ord) {k : Nat} (h : k < R.length) : fx R (k + 1) = crossStep R (fx R k) (R.getD k ord0) := by
  unfold fx
  rw [take_at R h, List.foldl_append]; rfl
theorem fx_all (l : List Ord) : fx (rights l) (rights l).length = cross l := by
  unfold fx cross crossOf
  rw [List.take_length]
theorem rights_few (l : List Ord) : (rights l).length ≤ 64 := by
  unfold rights
  split
  · simp
  · have := List.length_filter_le Ord.right l
    omega
end Ca
end Go.Proofs.Ytilbhnloelgpdaa
namespace Go.Proofs.Ytilbhnloelgpdaa
open Go.RowKit
set_option linter.unusedVariables false
set_option linter.unusedSimpArgs false
set_option maxHeartbeats 8000000 in
set_option maxRecDepth 100000 in
theorem cross_calls (w : World) (A : Option Addr) (L : List Ord) (c : Nat) (h : ORow w A L) :
    Calls Try.prog 14 #[.slice A L.length c] w (Told w (.tuple #[.int .i64 (Ca.cross L).1, .int .i64 (Ca.cross L).2])) := by
  have HC := Lib.hid (rights_calls w A L c h)
  have HE := Lib.hid (Ca.fx_all L)
  have hfew := Ca.rights_few L
  have HAm := Lib.hid (Ca.rights_amount (l := L))
  obtain ⟨T, hT⟩ : ∃ T, Hid (Ca.cross L = T) := ⟨_, Lib.hid rfl⟩
  rw [hT.out] at HE ⊢
  generalize Ca.rights L = R at HC HE hfew HAm
  obtain ⟨m, hm⟩ : ∃ m, Hid (R.length = m) := ⟨_, Lib.hid rfl⟩
  rw [hm.out] at HE hfew
  obtain ⟨n0, hn0⟩ : ∃ n0, Hid (L.length = n0) := ⟨_, Lib.hid rfl⟩
  rw [hn0.out] at HC ⊢
  clear h
  go_enter Try.func14, Try.ntmps14
  go_upto_region 2 with (go_at_call 36; (with_reducible refine HC.out.mono ?_); rintro e w1 ⟨A1, c1, rfl, hz1, hb1⟩; rw [hm.out] at hz1 ⊢; have HZ := Lib.hid hz1; have HB := Lib.hid hb1; clear hz1 hb1)
  have hO : Hid (ORow w1 A1 R) := Lib.hid (HZ.out.orow hm.out).2
  go_wp2
  go_loopg [2, 3, 15] (m + 1) (fun gk s2 s3 s15 wr => ∃ i : Nat, gk = m + 1 - i ∧ i ≤ m ∧ s15 = .int .i64 (i : Int) ∧ s2 = .int .i64 (Ca.fx R i).1 ∧ s3 = .int .i64 (Ca.fx R i).2 ∧ Hid (Below w1.heap.size w1 wr))
  case atStart => exact ⟨0, rfl, Nat.zero_le _, rfl, by rw [Ca.fx_zero R], by rw [Ca.fx_zero R], Lib.hid (Below.refl _ _)⟩
  case round =>
    obtain ⟨i, rfl, hi, rfl, rfl, rfl, hb⟩ := hrel
    have i0 : (0 : Int) ≤ (i : Int) := by omega
    by_cases hlt : i < m
    · have hltI : (i : Int) < (m : Int) := by omega
      have hlL : Hid (i < R.length) := Lib.hid (by rw [hm.out]; exact hlt)
      obtain ⟨b, o, rfl⟩ : ∃ b o, A1 = some ⟨b, o, none⟩ := by
        obtain ⟨b, o, e, _⟩ := hO.out.cells hlL.out
        exact ⟨b, o, e⟩
      have HCe := Lib.hid (fun k (hk : k < R.length) wx hh => ORow.six hO.out hk (w' := wx) hh)
      have HCi := Lib.hid (HCe.out i hlL.out)
      have hNx := Lib.hid (Ca.fx_next R hlL.out)
      have HM := Lib.hid (show m + 1 - (i + 1) < m + 1 - i by omega)
      obtain ⟨c0, c1', c2, c3, c4, c5⟩ := HCi.out wr hb.out
      generalize R.getD i ord0 = q at c0 c1' c2 c3 c4 c5 hNx
      obtain ⟨qi, qo, qp, qa, qpl, qb⟩ := q
      unfold Ca.crossStep at hNx
      simp only at c0 c1' c2 c3 c4 c5 hNx
      go_upto_region 5 with (fail)
      have hbA : Hid (Below w1.heap.size w1 (wr.alloc (.cells #[.int .i64 qi, .int .i64 qo, .int .i64 qp, .int .i64 qa, .int .i64 qpl, .bool qb] 33))) := Lib.hid (hb.out.alloc hb.out.size _)
      have BA := Lib.hid (Blk.new wr 33 #[.int .i64 qi, .int .i64 qo, .int .i64 qp, .int .i64 qa, .int .i64 qpl, .bool qb])
      obtain ⟨g, hg⟩ : ∃ g, Hid (wr.heap.size = g) := ⟨_, Lib.hid rfl⟩
      rw [hg.out] at BA ⊢
      clear c0 c1' c2 c3 c4 c5
      generalize World.alloc wr _ = wy at hbA BA ⊢
      have HG : Hid (∀ wx, Below wy.heap.size wy wx → wx.cell? ⟨g, 2, none⟩ = some (.int .i64 qp)) := Lib.hid fun wx hh => (BA.out.below hh BA.out.lt).cell 2
      go_wp2
      go_loopg [6, 7, 21] (m + 1) (fun gk s6 s7 s21 wi => ∃ j : Nat, gk = m + 1 - j ∧ j ≤ m ∧ s21 = .int .i64 (j : Int) ∧ s6 = .int .i64 (Ca.bx R qp j) ∧ s7 = .int .i64 (Ca.sx R qp j) ∧ Hid (Below wy.heap.size wy wi))
      case atStart => exact ⟨0, rfl, Nat.zero_le _, rfl, by rw [(Ca.bx_zero R qp).1], by rw [(Ca.bx_zero R qp).2], Lib.hid (Below.refl _ _)⟩
      case round =>
        obtain ⟨j, rfl, hj, rfl, rfl, rfl, hbi⟩ := hrel
        have j0 : (0 : Int) ≤ (j : Int) := by omega
        obtain ⟨u0, u1, d0, d1⟩ := Ca.bx_bound HAm.out qp j
        by_cases hjt : j < m
        · have hjI : (j : Int) < (m : Int) := by omega
          have hjL : Hid (j < R.length) := Lib.hid (by rw [hm.out]; exact hjt)
          have hB := Ca.bx_next R qp hjL.out
          have hS := Ca.sx_next R qp hjL.out
          have HMj := Lib.hid (show m + 1 - (j + 1) < m + 1 - j by omega)
          have hbw : Hid (Below w1.heap.size w1 wr) := Lib.hid (below_next hbA.out hbi.out)
          obtain ⟨c0, c1', c2, c3, c4, c5⟩ := HCe.out j hjL.out wr hbw.out
          have hg2 := HG.out wr hbi.out
          have hbj0 : Hid (∀ o, Below wy.heap.size wy (wr.alloc o)) := Lib.hid fun o => hbi.out.alloc hbi.out.size _
          obtain ⟨a0, a1⟩ : 1 ≤ (R.getD j ord0).amount ∧ (R.getD j ord0).amount ≤ 1048576 := HAm.out _ (by rw [List.getD_eq_getElem?_getD, List.getElem?_eq_getElem hjL.out]; exact List.getElem_mem hjL.out)
          generalize R.getD j ord0 = z at c0 c1' c2 c3 c4 c5 hB hS a0 a1
          obtain ⟨zi, zo, zp, za, zpl, zb⟩ := z
          simp only at c0 c1' c2 c3 c4 c5 hB hS a0 a1
          generalize Ca.bx R qp j = U at hB u0 u1 ⊢
          generalize Ca.sx R qp j = D at hS d0 d1 ⊢
          have qU : IntKind.i64.wrap (U + za) = U + za := by rw [IntKind.wrap_i64]; omega
          have qD : IntKind.i64.wrap (D + za) = D + za := by rw [IntKind.wrap_i64]; omega
          go_upto_region 9 with (fail)
          have BZ := Lib.hid (Blk.new wr 33 #[.int .i64 zi, .int .i64 zo, .int .i64 zp, .int .i64 za, .int .i64 zpl, .bool zb])
          have hbj := Lib.hid (hbj0.out (.cells #[.int .i64 zi, .int .i64 zo, .int .i64 zp, .int .i64 za, .int .i64 zpl, .bool zb] 33))
          obtain ⟨g2, hg2'⟩ : ∃ g2, Hid (wr.heap.size = g2) := ⟨_, Lib.hid rfl⟩
          rw [hg2'.out] at BZ ⊢
          clear c0 c1' c2 c3 c4 c5 hg2 hbj0
          generalize World.alloc wr _ = wz at hbj BZ ⊢
          have hgq := HG.out wz hbj.out
          obtain ⟨c2, c3, c5⟩ : wz.cell? ⟨g2, 2, none⟩ = some (.int .i64 zp) ∧ wz.cell? ⟨g2, 3, none⟩ = some (.int .i64 za) ∧ wz.cell? ⟨g2, 5, none⟩ = some (.bool zb) := ⟨BZ.out.cell 2, BZ.out.cell 3, BZ.out.cell 5⟩
          clear u0 u1 d0 d1 a0 a1
          cases zb with
          | true =>
            have hS' : Ca.sx R qp (j + 1) = D := by rw [hS, if_neg (by simp)]; omega
            by_cases hp : qp ≤ zp
            · have hB' : Ca.bx R qp (j + 1) = U + za := by rw [hB, if_pos ⟨rfl, hp⟩]
              go_wp2
              go_roundg (m + 1 - (j + 1))
              case measure => exact HMj.out
              case rel => exact ⟨j + 1, rfl, by omega, by go_num, by rw [hB'], by rw [hS'], hbj⟩
            · have hB' : Ca.bx R qp (j + 1) = U := by rw [hB, if_neg fun hh => hp hh.2]; omega
              go_wp2
              go_roundg (m + 1 - (j + 1))
              case measure => exact HMj.out
              case rel => exact ⟨j + 1, rfl, by omega, by go_num, by rw [hB'], by rw [hS'], hbj⟩
          | false =>
            have hB' : Ca.bx R qp (j + 1) = U := by rw [hB, if_neg (by simp)]; omega
            by_cases hp : zp ≤ qp
            · have hS' : Ca.sx R qp (j + 1) = D + za := by rw [hS, if_pos ⟨rfl, hp⟩]
              go_wp2
              go_roundg (m + 1 - (j + 1))
              case measure => exact HMj.out
              case rel => exact ⟨j + 1, rfl, by omega, by go_num, by rw [hB'], by rw [hS'], hbj⟩
            · have hS' : Ca.sx R qp (j + 1) = D := by rw [hS, if_neg fun hh => hp hh.2]; omega
              go_wp2
              go_roundg (m + 1 - (j + 1))
              case measure => exact HMj.out
              case rel => exact ⟨j + 1, rfl, by omega, by go_num, by rw [hB'], by rw [hS'], hbj⟩
        · obtain rfl : m = j := by omega
          have hmin := Ca.bx_all R qp
          rw [hm.out] at hmin
          have hbw : Hid (Below w1.heap.size w1 wr) := Lib.hid (below_next hbA.out hbi.out)
          have hg2 := HG.out wr hbi.out
          have hN := hNx.out
          clear hNx
          generalize Ca.bx R qp m = U at hmin u0 u1 ⊢
          generalize Ca.sx R qp m = D at hmin d0 d1 ⊢
          generalize Ca.traded R qp = t at hmin hN
          generalize Ca.fx R i = acc at hN ⊢
          obtain ⟨P, B⟩ := acc
          simp only at hN ⊢
          by_cases hUD : U ≤ D
          · rw [Int.min_eq_left hUD] at hmin
            subst hmin
            go_upto_region 15 with (fail)
            clear u0 u1 d0 d1
            by_cases h1 : B < U
            · rw [if_pos (.inl h1)] at hN
              go_wp2
              go_roundg (m + 1 - (i + 1))
              case measure => exact HM.out
              case rel => exact ⟨i + 1, rfl, by omega, by go_num, by (first | (rw [hN]; done) | simp [hN, h2]), by (first | (rw [hN]; done) | simp [hN, h2]), hbw⟩
            · by_cases h2 : U = B
              · have h2B : (U == B) = true := by simpa using h2
                by_cases h3 : 0 < U
                · by_cases h4 : qp < P
                  · rw [if_pos (.inr ⟨h2, h3, h4⟩)] at hN
                    go_wp2
                    go_roundg (m + 1 - (i + 1))
                    case measure => exact HM.out
                    case rel => exact ⟨i + 1, rfl, by omega, by go_num, by (first | (rw [hN]; done) | simp [hN, h2]), by (first | (rw [hN]; done) | simp [hN, h2]), hbw⟩
                  · rw [if_neg (by omega)] at hN
                    go_wp2
                    go_roundg (m + 1 - (i + 1))
                    case measure => exact HM.out
                    case rel => exact ⟨i + 1, rfl, by omega, by go_num, by (first | (rw [hN]; done) | simp [hN, h2]), by (first | (rw [hN]; done) | simp [hN, h2]), hbw⟩
                · rw [if_neg (by omega)] at hN
                  go_wp2
                  go_roundg (m + 1 - (i + 1))
                  case measure => exact HM.out
                  case rel => exact ⟨i + 1, rfl, by omega, by go_num, by (first | (rw [hN]; done) | simp [hN, h2]), by (first | (rw [hN]; done) | simp [hN, h2]), hbw⟩
              · rw [if_neg (by omega)] at hN
                have h2B : (U == B) = false := by simpa using h2
                go_wp2
                go_roundg (m + 1 - (i + 1))
                case measure => exact HM.out
                case rel => exact ⟨i + 1, rfl, by omega, by go_num, by (first | (rw [hN]; done) | simp [hN, h2]), by (first | (rw [hN]; done) | simp [hN, h2]), hbw⟩
          · rw [Int.min_eq_right (by omega)] at hmin
            subst hmin
            go_upto_region 15 with (fail)
            clear u0 u1 d0 d1
            by_cases h1 : B < D
            · rw [if_pos (.inl h1)] at hN
              go_wp2
              go_roundg (m + 1 - (i + 1))
              case measure => exact HM.out
              case rel => exact ⟨i + 1, rfl, by omega, by go_num, by (first | (rw [hN]; done) | simp [hN, h2]), by (first | (rw [hN]; done) | simp [hN, h2]), hbw⟩
            · by_cases h2 : D = B
              · have h2B : (D == B) = true := by simpa using h2
                by_cases h3 : 0 < D
                · by_cases h4 : qp < P
                  · rw [if_pos (.inr ⟨h2, h3, h4⟩)] at hN
                    go_wp2
                    go_roundg (m + 1 - (i + 1))
                    case measure => exact HM.out
                    case rel => exact ⟨i + 1, rfl, by omega, by go_num, by (first | (rw [hN]; done) | simp [hN, h2]), by (first | (rw [hN]; done) | simp [hN, h2]), hbw⟩
                  · rw [if_neg (by omega)] at hN
                    go_wp2
                    go_roundg (m + 1 - (i + 1))
                    case measure => exact HM.out
                    case rel => exact ⟨i + 1, rfl, by omega, by go_num, by (first | (rw [hN]; done) | simp [hN, h2]), by (first | (rw [hN]; done) | simp [hN, h2]), hbw⟩
                · rw [if_neg (by omega)] at hN
                  go_wp2
                  go_roundg (m + 1 - (i + 1))
                  case measure => exact HM.out
                  case rel => exact ⟨i + 1, rfl, by omega, by go_num, by (first | (rw [hN]; done) | simp [hN, h2]), by (first | (rw [hN]; done) | simp [hN, h2]), hbw⟩
              · rw [if_neg (by omega)] at hN
                have h2B : (D == B) = false := by simpa using h2
                go_wp2
                go_roundg (m + 1 - (i + 1))
                case measure => exact HM.out
                case rel => exact ⟨i + 1, rfl, by omega, by go_num, by (first | (rw [hN]; done) | simp [hN, h2]), by (first | (rw [hN]; done) | simp [hN, h2]), hbw⟩
    · obtain rfl : m = i := by omega
      go_wp2
      refine bodyPost_ret (by simp [results, Try.results14, asAddr, go_sem]; rfl) rfl ?_
      exact ⟨by rw [HE.out], below_next HB.out hb.out⟩
end Go.Proofs.Ytilbhnloelgpdaa
