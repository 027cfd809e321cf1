/- The price at which most is traded, in plain. -/
import Derived.Test.YtilbhnloelgpdaaOrd
namespace Go.Proofs.Ytilbhnloelgpdaa
namespace Ca
/-- acc is the best of the prices of m, by what is traded among l. -/
structure Best (l m : List Ord) (acc : Int × Int) : Prop where
  most : ∀ o ∈ m, traded l o.price ≤ acc.2
  pos : 0 ≤ acc.2
  none : acc.2 = 0 → acc.1 = 0
  own : 0 < acc.2 → ∃ o ∈ m, o.price = acc.1 ∧ traded l o.price = acc.2
  low : 0 < acc.2 → ∀ o ∈ m, traded l o.price = acc.2 → acc.1 ≤ o.price
theorem Best.start (l : List Ord) : Best l [] (0, 0) := ⟨by simp, Int.le_refl _, fun _ => rfl, fun h => absurd h (by decide), fun h => absurd h (by decide)⟩
theorem Best.step {l m : List Ord} {acc : Int × Int} (h : Best l m acc) (o : Ord) : Best l (m ++ [o]) (crossStep l acc o) := by
  have h0 := h.pos
  unfold crossStep
  split
  · rename_i hc
    refine ⟨fun q hq => ?_, ?_, fun hz => ?_, fun _ => ⟨o, by simp, rfl, rfl⟩, fun hp q hq hqe => ?_⟩
    · show traded l q.price ≤ traded l o.price
      rcases List.mem_append.1 hq with hq | hq
      · have := h.most q hq; omega
      · rw [List.mem_singleton] at hq; rw [hq]; exact Int.le_refl _
    · show 0 ≤ traded l o.price
      omega
    · have hz' : traded l o.price = 0 := hz
      omega
    · have hqe' : traded l q.price = traded l o.price := hqe
      show o.price ≤ q.price
      rcases List.mem_append.1 hq with hq | hq
      · have h1 := h.most q hq
        rcases hc with hc | ⟨hc1, hc2, hc3⟩
        · omega
        · have := h.low (by omega) q hq (by omega)
          omega
      · rw [List.mem_singleton] at hq; rw [hq]; exact Int.le_refl _
  · rename_i hc
    refine ⟨fun q hq => ?_, h0, h.none, fun hp => ?_, fun hp q hq hqe => ?_⟩
    · rcases List.mem_append.1 hq with hq | hq
      · exact h.most q hq
      · rw [List.mem_singleton] at hq; rw [hq]; omega
    · obtain ⟨q, h1, h2, h3⟩ := h.own hp
      exact ⟨q, List.mem_append_left _ h1, h2, h3⟩
    · rcases List.mem_append.1 hq with hq | hq
      · exact h.low hp q hq hqe
      · rw [List.mem_singleton] at hq
        rw [hq] at hqe ⊢
        omega
theorem Best.fold (l : List Ord) : ∀ (rest m : List Ord) (acc : Int × Int), Best l m acc → Best l (m ++ rest) (rest.foldl (crossStep l) acc)
  | [], m, acc, h => by rw [List.append_nil]; exact h
  | o :: rest, m, acc, h => by
    have := Best.fold l rest (m ++ [o]) _ (h.step o)
    rw [List.append_assoc] at this
    exact this
theorem cross_best (l : List Ord) : Best l l (crossOf l) := Best.fold l l [] (0, 0) (Best.start l)
/-- There is one best. -/
theorem Best.one {l m : List Ord} {a b : Int × Int} (ha : Best l m a) (hb : Best l m b) : a = b := by
  have e2 : a.2 = b.2 := by
    have h1 := ha.pos
    have h2 := hb.pos
    rcases Int.lt_or_le a.2 b.2 with h | h
    · obtain ⟨o, h3, _, h4⟩ := hb.own (by omega)
      have := ha.most o h3; omega
    · rcases Int.lt_or_le b.2 a.2 with h' | h'
      · obtain ⟨o, h3, _, h4⟩ := ha.own (by omega)
        have := hb.most o h3; omega
      · omega
  have e1 : a.1 = b.1 := by
    by_cases hz : a.2 = 0
    · rw [ha.none hz, hb.none (by omega)]
    · have h1 := ha.pos
      obtain ⟨o, o1, o2, o3⟩ := ha.own (by omega)
      obtain ⟨q, q1, q2, q3⟩ := hb.own (by omega)
      have h2 := ha.low (by omega) q q1 (by omega)
      have h3 := hb.low (by omega) o o1 (by omega)
      omega
  exact Prod.ext e1 e2
/-- The same orders in another order: the same best. -/
theorem Best.turn {l l' m m' : List Ord} {a : Int × Int} (h : Best l m a) (ht : ∀ p, traded l' p = traded l p) (hm : ∀ o, o ∈ m' ↔ o ∈ m) : Best l' m' a :=
  ⟨fun o ho => by rw [ht]; exact h.most o ((hm o).1 ho), h.pos, h.none, fun hp => by
    obtain ⟨o, h1, h2, h3⟩ := h.own hp
    exact ⟨o, (hm o).2 h1, h2, by rw [ht]; exact h3⟩, fun hp o ho he => h.low hp o ((hm o).1 ho) (by rw [← ht]; exact he)⟩
theorem bought_append (l m : List Ord) (p : Int) : bought (l ++ m) p = bought l p + bought m p := by simp [bought]
theorem sold_append (l m : List Ord) (p : Int) : sold (l ++ m) p = sold l p + sold m p := by simp [sold]
theorem traded_reverse (l : List Ord) (p : Int) : traded l.reverse p = traded l p := by
  have hb : bought l.reverse p = bought l p := by
    induction l with
    | nil => rfl
    | cons o l ih =>
      have e : o :: l = [o] ++ l := rfl
      rw [List.reverse_cons, bought_append, ih, e, bought_append]; omega
  have hs : sold l.reverse p = sold l p := by
    induction l with
    | nil => rfl
    | cons o l ih =>
      have e : o :: l = [o] ++ l := rfl
      rw [List.reverse_cons, sold_append, ih (by
        have h := hb
        rw [List.reverse_cons, bought_append, e, bought_append] at h
        omega), e, sold_append]; omega
  unfold traded
  rw [hb, hs]
theorem rights_reverse (l : List Ord) : rights l.reverse = (rights l).reverse := by
  unfold rights
  rw [List.length_reverse]
  split
  · rfl
  · rw [List.filter_reverse]
/-- CallTurned's law. -/
theorem cross_reverse (l : List Ord) : cross l.reverse = cross l := by
  unfold cross
  rw [rights_reverse]
  exact (cross_best _).one ((cross_best (rights l)).turn (traded_reverse _) fun o => List.mem_reverse)
theorem rights_amount {l : List Ord} : ∀ o ∈ rights l, 1 ≤ o.amount ∧ o.amount ≤ 1048576 := fun o ho => by
  unfold rights at ho
  split at ho
  · simp at ho
  · have := (Ord.right_iff o).1 (List.mem_filter.1 ho).2
    omega
/-- CallMost's law: at no price more is traded, at each lower one less. -/
theorem cross_most (l : List Ord) (p : Int) : traded (rights l) p ≤ (cross l).2 := by
  have hB := cross_best (rights l)
  have ha : ∀ o ∈ rights l, 1 ≤ o.amount := fun o ho => (rights_amount o ho).1
  by_cases h : 0 < traded (rights l) p
  · obtain ⟨o, h1, _, h3⟩ := traded_own ha h
    exact Int.le_trans h3 (hB.most o h1)
  · have := hB.pos
    show _ ≤ (crossOf (rights l)).2
    omega
theorem cross_less (l : List Ord) (p : Int) (hn : 0 < (cross l).2) (hp : p < (cross l).1) : traded (rights l) p < (cross l).2 := by
  have hB := cross_best (rights l)
  have ha : ∀ o ∈ rights l, 1 ≤ o.amount := fun o ho => (rights_amount o ho).1
  rcases Int.lt_or_le (traded (rights l) p) (cross l).2 with h | h
  · exact h
  · obtain ⟨o, h1, h2, h3⟩ := traded_own ha (p := p) (by omega)
    have h4 : traded (rights l) o.price ≤ (crossOf (rights l)).2 := hB.most o h1
    have h5 : (cross l).2 = (crossOf (rights l)).2 := rfl
    have h6 : (crossOf (rights l)).1 ≤ o.price := hB.low (by omega) o h1 (by omega)
    have h7 : (cross l).1 = (crossOf (rights l)).1 := rfl
    omega
theorem cross_at (l : List Ord) (hn : 0 < (cross l).2) : traded (rights l) (cross l).1 = (cross l).2 := by
  obtain ⟨o, _, h2, h3⟩ := (cross_best (rights l)).own hn
  have h7 : (cross l).1 = (crossOf (rights l)).1 := rfl
  rw [h7, ← h2]; exact h3
theorem cross_zero (l : List Ord) : 0 < (cross l).2 ∨ (cross l).1 = 0 := by
  have hB := cross_best (rights l)
  by_cases h : (crossOf (rights l)).2 = 0
  · exact .inr (hB.none h)
  · have := hB.pos
    exact .inl (show 0 < (crossOf (rights l)).2 by omega)
end Ca
end Go.Proofs.Ytilbhnloelgpdaa
