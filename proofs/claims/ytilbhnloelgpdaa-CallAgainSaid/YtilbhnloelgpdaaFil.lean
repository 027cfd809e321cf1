/- How much of each order is traded, in plain. -/
import Derived.Test.YtilbhnloelgpdaaODuo
namespace Go.Proofs.Ytilbhnloelgpdaa
open Go.RowKit
set_option linter.unusedVariables false
set_option linter.unusedSimpArgs false
structure Fil where
  id : Int
  owner : Int
  amount : Int
def fil0 : Fil := ⟨0, 0, 0⟩
def fcell (f : Fil) : List Value := [.int .i64 f.id, .int .i64 f.owner, .int .i64 f.amount]
def fcells (L : List Fil) : List Value := L.flatMap fcell
theorem fcell_length (f : Fil) : (fcell f).length = 3 := rfl
theorem fcells_append (L M : List Fil) : fcells (L ++ M) = fcells L ++ fcells M := by unfold fcells; rw [List.flatMap_append]
theorem fcells_length (L : List Fil) : (fcells L).length = L.length * 3 := by
  induction L with
  | nil => rfl
  | cons o l ih => unfold fcells at *; rw [List.flatMap_cons, List.length_append, ih, List.length_cons, fcell_length]; omega
theorem fcells_one (L : List Fil) : ∀ u ∈ fcells L, u.oneCell' = true := by
  intro u hu
  unfold fcells at hu
  obtain ⟨p, _, hs⟩ := List.mem_flatMap.1 hu
  unfold fcell at hs
  simp only [List.mem_cons, List.not_mem_nil, or_false] at hs
  rcases hs with rfl | rfl | rfl <;> rfl
theorem fcells_get (L : List Fil) {i j : Nat} (hi : i < L.length) (hj : j < 3) : (fcells L).getD (i * 3 + j) (.bool false) = (fcell (L.getD i fil0)).getD j (.bool false) := by
  induction L generalizing i with
  | nil => simp at hi
  | cons s L ih =>
    have e : fcells (s :: L) = fcell s ++ fcells L := rfl
    rw [e]
    cases i with
    | zero =>
      simp only [List.getD_eq_getElem?_getD, Nat.zero_mul, Nat.zero_add]
      rw [List.getElem?_append_left (by rw [fcell_length]; exact hj)]; rfl
    | succ i =>
      have := ih (i := i) (by simpa using hi)
      rw [show (i + 1) * 3 + j = (i * 3 + j) + 3 from by omega]
      simp only [List.getD_eq_getElem?_getD] at *
      rw [List.getElem?_append_right (by rw [fcell_length]; omega)]
      simpa [fcell] using this
/-- The fills L in w, from A on. -/
def FRow (w : World) (A : Option Addr) (L : List Fil) : Prop := Row w A (L.length * 3) fun j => (fcells L).getD j (.bool false)
theorem FRow.below {w w' : World} {A : Option Addr} {L : List Fil} (h : FRow w A L) (hb : Below w.heap.size w w') : FRow w' A L := Row.below h hb
theorem FRow.cells {w : World} {A : Option Addr} {L : List Fil} (h : FRow w A L) {i : Nat} (hi : i < L.length) : ∃ b o, A = some ⟨b, o, none⟩ ∧ ∀ w', Below w.heap.size w w' → ∀ j, j < 3 → w'.cell? ⟨b, o + i * 3 + j, none⟩ = some ((fcell (L.getD i fil0)).getD j (.bool false)) := by
  obtain ⟨b, o, e, _⟩ := Row.at_ h (k := i * 3) (by omega)
  refine ⟨b, o, e, fun w' hb j hj => ?_⟩
  obtain ⟨b', o', e', h1, h2⟩ := Row.at_ h (k := i * 3 + j) (by omega)
  rw [e] at e'; cases e'
  rw [← fcells_get L hi hj, Nat.add_assoc]; exact (below_cell hb h1).trans h2
theorem FRow.three {w w' : World} {b o : Nat} {L : List Fil} (h : FRow w (some ⟨b, o, none⟩) L) {i : Nat} (hi : i < L.length) (hb : Below w.heap.size w w') :
    w'.cell? ⟨b, o + i * 3, none⟩ = some (.int .i64 (L.getD i fil0).id) ∧ w'.cell? ⟨b, o + i * 3 + 1, none⟩ = some (.int .i64 (L.getD i fil0).owner) ∧ w'.cell? ⟨b, o + i * 3 + 2, none⟩ = some (.int .i64 (L.getD i fil0).amount) := by
  obtain ⟨b', o', e, h1⟩ := FRow.cells h hi
  cases e
  have each := h1 w' hb
  exact ⟨each 0 (by omega), each 1 (by omega), each 2 (by omega)⟩
theorem Mine.frow {w0 w : World} {A : Option Addr} {c m : Nat} {L : List Fil} (h : Mine w0 w 3 (.slice A m c) m (fcells L)) (hm : L.length = m) : m ≤ c ∧ FRow w A L := by
  obtain ⟨A', c', e, h1, _, h3⟩ := h.row
  cases e
  refine ⟨h1, ?_⟩
  unfold FRow
  rw [hm]; exact h3
/-- A list of fills of its own. -/
def FLeft (w0 : World) (R : List Fil) (e : Ending) (w' : World) : Prop := ∃ A c, e = .returned (.slice A R.length c) ∧ Mine w0 w' 3 (.slice A R.length c) R.length (fcells R) ∧ Below w0.heap.size w0 w'
/-- o goes to its place in l, which is sorted. -/
def ins (sd : Bool) (o : Ord) (l : List Ord) : List Ord := l.takeWhile (fun x => !fst sd o x) ++ o :: l.dropWhile (fun x => !fst sd o x)
def isort (sd : Bool) (l : List Ord) : List Ord := l.foldl (fun acc o => ins sd o acc) []
theorem tw_all {p : Ord → Bool} : ∀ {l : List Ord} {x : Ord}, x ∈ l.takeWhile p → p x = true
  | [], x, h => by simp at h
  | q :: l, x, h => by
    by_cases hq : p q = true
    · rw [List.takeWhile_cons_of_pos hq, List.mem_cons] at h
      rcases h with h | h
      · rw [h]; exact hq
      · exact tw_all h
    · rw [List.takeWhile_cons_of_neg hq] at h; simp at h
theorem dw_head {p : Ord → Bool} : ∀ {l : List Ord} {x : Ord} {t : List Ord}, l.dropWhile p = x :: t → p x = false
  | [], x, t, h => by simp at h
  | q :: l, x, t, h => by
    by_cases hq : p q = true
    · rw [List.dropWhile_cons_of_pos hq] at h; exact dw_head h
    · rw [List.dropWhile_cons_of_neg hq] at h
      obtain ⟨rfl, _⟩ := List.cons.inj h
      simpa using hq
theorem ins_stab {sd : Bool} {l : List Ord} (h : Sortd (fst sd) l) (o : Ord) : Stab (fst sd) (l ++ [o]) (ins sd o l) := by
  have hw := fst_swo sd
  have e : l.takeWhile (fun x => !fst sd o x) ++ l.dropWhile (fun x => !fst sd o x) = l := List.takeWhile_append_dropWhile
  have := stab_insert hw (S1 := l.takeWhile (fun x => !fst sd o x)) (S2 := l.dropWhile (fun x => !fst sd o x)) (o := o) (by rw [e]; exact h) (fun x hx => by have := tw_all hx; simpa using this) (fun x hx => ?_)
  · rwa [e] at this
  · have hs : Sortd (fst sd) (l.dropWhile (fun x => !fst sd o x)) := by
      rw [← e] at h
      exact (sortd_append.1 h).2.1
    generalize hd : l.dropWhile (fun x => !fst sd o x) = d at hs hx
    cases d with
    | nil => cases hx
    | cons y t =>
      have h1 : fst sd o y = true := by have := dw_head hd; simpa using this
      rcases List.mem_cons.1 hx with rfl | hx
      · exact h1
      · exact hw.lt_le h1 ((List.pairwise_cons.1 hs).1 x hx)
theorem isort_fold (sd : Bool) : ∀ (l m a : List Ord), Stab (fst sd) m a → Stab (fst sd) (m ++ l) (l.foldl (fun acc o => ins sd o acc) a)
  | [], m, a, h => by rw [List.append_nil]; exact h
  | o :: l, m, a, h => by
    have h2 : Stab (fst sd) (m ++ [o]) (ins sd o a) := Stab.of_alike (B := a ++ [o]) (fun x => by rw [cls_append, cls_append, h.alike]) (by rw [List.length_append, List.length_append, h.len]) (ins_stab h.sorted o)
    have := isort_fold sd l (m ++ [o]) _ h2
    rw [List.append_assoc] at this
    exact this
theorem isort_stab (sd : Bool) (l : List Ord) : Stab (fst sd) l (isort sd l) := isort_fold sd l [] [] (Stab.refl List.Pairwise.nil)
namespace Ca
def good (sd : Bool) (p : Int) (o : Ord) : Bool := (o.buys == sd) && (if sd = true then decide (p ≤ o.price) else decide (o.price ≤ p))
def sideOf (sd : Bool) (p : Int) (R : List Ord) : List Ord := R.filter (good sd p)
def fillGo : Int → List Ord → List Fil
  | _, [] => []
  | left, o :: l => if 0 < min left o.amount then ⟨o.id, o.owner, min left o.amount⟩ :: fillGo (left - min left o.amount) l else fillGo left l
def leftGo : Int → List Ord → Int
  | left, [] => left
  | left, o :: l => leftGo (if 0 < min left o.amount then left - min left o.amount else left) l
def fills (L : List Ord) (p n : Int) : List Fil := fillGo n (isort true (sideOf true p (rights L))) ++ fillGo n (isort false (sideOf false p (rights L)))
theorem fillGo_snoc (o : Ord) : ∀ (l : List Ord) (n : Int), fillGo n (l ++ [o]) = fillGo n l ++ (if 0 < min (leftGo n l) o.amount then [⟨o.id, o.owner, min (leftGo n l) o.amount⟩] else [])
  | [], n => rfl
  | q :: l, n => by
    simp only [List.cons_append, fillGo, leftGo]
    split
    · rw [List.cons_append, fillGo_snoc o l]
    · rw [fillGo_snoc o l]
theorem leftGo_snoc (o : Ord) : ∀ (l : List Ord) (n : Int), leftGo n (l ++ [o]) = if 0 < min (leftGo n l) o.amount then leftGo n l - min (leftGo n l) o.amount else leftGo n l
  | [], n => rfl
  | q :: l, n => by
    simp only [List.cons_append, leftGo]
    exact leftGo_snoc o l _
theorem fillGo_length : ∀ (l : List Ord) (n : Int), (fillGo n l).length ≤ l.length
  | [], n => Nat.le_refl _
  | q :: l, n => by
    simp only [fillGo]
    split
    · have := fillGo_length l (n - min n q.amount); simp only [List.length_cons]; omega
    · have := fillGo_length l n; simp only [List.length_cons]; omega
theorem leftGo_range {lo hi : Int} (h0 : lo ≤ 0) : ∀ (l : List Ord) (n : Int), lo ≤ n → n ≤ hi → lo ≤ leftGo n l ∧ leftGo n l ≤ hi
  | [], n, h1, h2 => ⟨h1, h2⟩
  | q :: l, n, h1, h2 => by
    simp only [leftGo]
    split
    · exact leftGo_range h0 l _ (by omega) (by omega)
    · exact leftGo_range h0 l _ h1 h2
theorem sideOf_next (sd : Bool) (p : Int) (R : List Ord) {k : Nat} (h : k < R.length) : sideOf sd p (R.take (k + 1)) = sideOf sd p (R.take k) ++ (if good sd p (R.getD k ord0) = true then [R.getD k ord0] else []) := by
  unfold sideOf
  rw [take_at R h, List.filter_append]
  congr 1
  generalize R.getD k ord0 = q
  by_cases hg : good sd p q = true
  · rw [if_pos hg, List.filter_cons_of_pos hg]; rfl
  · rw [if_neg hg, List.filter_cons_of_neg hg]; rfl
theorem sideOf_buys {sd : Bool} {p : Int} {R : List Ord} : ∀ o ∈ sideOf sd p R, o.buys = sd := fun o ho => by
  have := (List.mem_filter.1 ho).2
  unfold good at this
  simp only [Bool.and_eq_true, beq_iff_eq] at this
  exact this.1
end Ca
end Go.Proofs.Ytilbhnloelgpdaa
