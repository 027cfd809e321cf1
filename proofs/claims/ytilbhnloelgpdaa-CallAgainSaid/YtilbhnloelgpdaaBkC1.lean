/- Clearing a book, in plain. -/
import Derived.Test.YtilbhnloelgpdaaBkL
namespace Go.Proofs.Ytilbhnloelgpdaa
open Go.RowKit
set_option linter.unusedVariables false
set_option linter.unusedSimpArgs false
namespace Ca
theorem fillGo_mem : ∀ (l : List Ord) (n : Int) {f : Fil}, f ∈ fillGo n l → ∃ o ∈ l, f.id = o.id ∧ f.owner = o.owner ∧ 1 ≤ f.amount ∧ f.amount ≤ o.amount
  | [], n, f, h => by simp [fillGo] at h
  | q :: l, n, f, h => by
    unfold fillGo at h
    split at h
    · rename_i hp
      rcases List.mem_cons.1 h with rfl | h
      · exact ⟨q, List.mem_cons_self .., rfl, rfl, by show 1 ≤ min n q.amount; omega, Int.min_le_right ..⟩
      · obtain ⟨o, h1, h2⟩ := fillGo_mem l _ h
        exact ⟨o, List.mem_cons_of_mem _ h1, h2⟩
    · obtain ⟨o, h1, h2⟩ := fillGo_mem l _ h
      exact ⟨o, List.mem_cons_of_mem _ h1, h2⟩
theorem fillGo_sub : ∀ (l : List Ord) (n : Int), List.Sublist ((fillGo n l).map (·.id)) (l.map (·.id))
  | [], n => List.Sublist.slnil
  | q :: l, n => by
    unfold fillGo
    split
    · exact (fillGo_sub l _).cons_cons _
    · exact (fillGo_sub l _).cons _
theorem ins_perm (sd : Bool) (o : Ord) (l : List Ord) : (ins sd o l).Perm (o :: l) := by
  unfold ins
  refine List.perm_middle.trans ?_
  rw [List.takeWhile_append_dropWhile]
theorem fold_perm (sd : Bool) : ∀ (l a : List Ord), (l.foldl (fun acc o => ins sd o acc) a).Perm (l ++ a)
  | [], a => List.Perm.refl _
  | o :: l, a => by
    refine (fold_perm sd l (ins sd o a)).trans ?_
    exact ((ins_perm sd o a).append_left l).trans List.perm_middle
theorem isort_perm (sd : Bool) (l : List Ord) : (isort sd l).Perm l := by
  have := fold_perm sd l []
  rw [List.append_nil] at this
  exact this
theorem fills_mem {L : List Ord} {p n : Int} {f : Fil} (h : f ∈ fills L p n) : ∃ o ∈ rights L, f.id = o.id ∧ f.owner = o.owner ∧ 1 ≤ f.amount ∧ f.amount ≤ o.amount := by
  unfold fills at h
  rcases List.mem_append.1 h with h | h
  all_goals
    obtain ⟨o, h1, h2⟩ := fillGo_mem _ _ h
    exact ⟨o, (List.mem_filter.1 ((isort_perm _ _).mem_iff.1 h1)).1, h2⟩
theorem fills_few (L : List Ord) (p n : Int) : (fills L p n).length ≤ 128 := by
  unfold fills
  rw [List.length_append]
  have h1 := fillGo_length (isort true (sideOf true p (rights L))) n
  have h2 := fillGo_length (isort false (sideOf false p (rights L))) n
  have h3 := (isort_perm true (sideOf true p (rights L))).length_eq
  have h4 := (isort_perm false (sideOf false p (rights L))).length_eq
  have h5 : (sideOf true p (rights L)).length ≤ (rights L).length := List.length_filter_le _ _
  have h6 : (sideOf false p (rights L)).length ≤ (rights L).length := List.length_filter_le _ _
  have h7 := rights_few L
  omega
theorem id_inj {R : List Ord} (h : R.Pairwise fun x y => x.id ≠ y.id) {x y : Ord} (hx : x ∈ R) (hy : y ∈ R) (e : x.id = y.id) : x = y := by
  obtain ⟨i, hi, ei⟩ := List.getElem_of_mem hx
  obtain ⟨j, hj, ej⟩ := List.getElem_of_mem hy
  rcases Nat.lt_trichotomy i j with hij | hij | hij
  · exact absurd (by rw [ei, ej]; exact e) (List.pairwise_iff_getElem.1 h i j hi hj hij)
  · subst hij; rw [← ei, ← ej]
  · exact absurd (by rw [ei, ej]; exact e.symm) (List.pairwise_iff_getElem.1 h j i hj hi hij)
theorem pw_ids {M : List Ord} : (M.map (·.id)).Pairwise (· ≠ ·) ↔ M.Pairwise fun x y => x.id ≠ y.id := List.pairwise_map
theorem fills_ids {L : List Ord} (h : L.Pairwise fun x y => x.id ≠ y.id) (p n : Int) : ((fills L p n).map (·.id)).Pairwise (· ≠ ·) := by
  have hR : (rights L).Pairwise fun x y => x.id ≠ y.id := by
    unfold rights
    split
    · exact List.Pairwise.nil
    · exact h.sublist List.filter_sublist
  have hs : ∀ sd, (sideOf sd p (rights L)).Pairwise fun x y => x.id ≠ y.id := fun sd => hR.sublist List.filter_sublist
  have hi : ∀ sd, ((isort sd (sideOf sd p (rights L))).map (·.id)).Pairwise (· ≠ ·) := fun sd => by
    have hp := (isort_perm sd (sideOf sd p (rights L))).map (·.id)
    exact (hp.pairwise_iff (fun h => Ne.symm h)).2 (pw_ids.2 (hs sd))
  unfold fills
  rw [List.map_append, List.pairwise_append]
  refine ⟨(hi true).sublist (fillGo_sub _ _), (hi false).sublist (fillGo_sub _ _), fun a ha b hb e => ?_⟩
  obtain ⟨x, hx, rfl⟩ := List.mem_map.1 ((fillGo_sub _ _).subset ha)
  obtain ⟨y, hy, e2⟩ := List.mem_map.1 ((fillGo_sub _ _).subset hb)
  have hx2 := (isort_perm _ _).mem_iff.1 hx
  have hy2 := (isort_perm _ _).mem_iff.1 hy
  have he := id_inj hR (List.mem_filter.1 hx2).1 (List.mem_filter.1 hy2).1 (e.trans e2.symm)
  have b1 := sideOf_buys x hx2
  have b2 := sideOf_buys y hy2
  rw [he, b2] at b1
  cases b1
end Ca
namespace Bk
theorem less_map (L : List Ord) (f : Fil) : (less L f).map (fun x => (x.id, x.place)) = L.map fun x => (x.id, x.place) := set_same_map rfl rfl
theorem less_length (L : List Ord) (f : Fil) : (less L f).length = L.length := by unfold less; rw [List.length_set]
theorem ids_of {L M : List Ord} (h : L.map (fun x => (x.id, x.place)) = M.map fun x => (x.id, x.place)) : L.map (·.id) = M.map (·.id) := by
  have := congrArg (List.map Prod.fst) h
  rw [List.map_map, List.map_map] at this
  exact this
theorem ix_map {L M : List Ord} (h : L.map (·.id) = M.map (·.id)) (id : Int) : ix L id = ix M id := by
  have e : ∀ K : List Ord, ix K id = (K.map (·.id)).findIdx (fun x => x == id) := fun K => by
    unfold ix
    rw [List.findIdx_map]; rfl
  rw [e, e, h]
/-- The list behind the first j fills. -/
def ln (L : List Ord) (F : List Fil) (j : Nat) : List Ord := (F.take j).foldl less L
theorem ln_zero (L : List Ord) (F : List Fil) : ln L F 0 = L := by unfold ln; rw [List.take_zero]; rfl
theorem ln_next (L : List Ord) (F : List Fil) {j : Nat} (h : j < F.length) : ln L F (j + 1) = less (ln L F j) (F.getD j fil0) := by
  unfold ln
  rw [List.take_succ_eq_append_getElem h, List.foldl_append, List.getD_eq_getElem?_getD, List.getElem?_eq_getElem h]; rfl
theorem fold_map : ∀ (F : List Fil) (L : List Ord), (F.foldl less L).map (fun x => (x.id, x.place)) = L.map fun x => (x.id, x.place)
  | [], L => rfl
  | f :: F, L => by rw [List.foldl_cons, fold_map F, less_map]
theorem fold_length (F : List Fil) (L : List Ord) : (F.foldl less L).length = L.length := by
  have := congrArg List.length (fold_map F L)
  rwa [List.length_map, List.length_map] at this
theorem fold_bound {L : List Ord} {F : List Fil} (hF : ∀ f ∈ F, 1 ≤ f.amount ∧ f.amount ≤ 1048576) {B : Int} (hL : ∀ o ∈ L, -B ≤ o.amount ∧ o.amount ≤ 1048576) : ∀ o ∈ F.foldl less L, -(B + 1048576 * F.length) ≤ o.amount ∧ o.amount ≤ 1048576 := by
  induction F generalizing L B with
  | nil => intro o ho; have := hL o ho; simp only [List.length_nil]; omega
  | cons f F ih =>
    intro o ho
    rw [List.foldl_cons] at ho
    have hf := hF f (List.mem_cons_self ..)
    have := ih (L := less L f) (B := B + 1048576) (fun g hg => hF g (List.mem_cons_of_mem _ hg)) (fun q hq => by
      unfold less at hq
      rcases mem_set_cases hq with hq' | rfl
      · have := hL q hq'; omega
      · by_cases hi : ix L f.id < L.length
        · have := hL _ (getD_mem hi)
          show -(B + 1048576) ≤ (L.getD _ ord0).amount - f.amount ∧ (L.getD _ ord0).amount - f.amount ≤ _
          omega
        · rw [List.set_eq_of_length_le (by omega)] at hq
          have := hL _ hq; omega) o ho
    simp only [List.length_cons]
    omega
/-- How much of a number is traded. -/
def got (F : List Fil) (id : Int) : Int := ((F.filter fun f => f.id == id).map (·.amount)).sum
theorem got_cons (f : Fil) (F : List Fil) (id : Int) : got (f :: F) id = (if f.id = id then f.amount else 0) + got F id := by
  unfold got
  by_cases h : f.id = id <;> simp [h]
theorem less_at {L : List Ord} (h : L.Pairwise fun x y => x.id ≠ y.id) (f : Fil) {i : Nat} (hi : i < L.length) : (less L f).getD i ord0 = { L.getD i ord0 with amount := (L.getD i ord0).amount - (if f.id = (L.getD i ord0).id then f.amount else 0) } := by
  unfold less
  by_cases e : f.id = (L.getD i ord0).id
  · rw [if_pos e, e, ix_at h hi, getD_set_self hi]
  · rw [if_neg e]
    by_cases h2 : ix L f.id = i
    · exact absurd (by rw [← h2]; exact (ix_id (by rw [h2]; exact hi)).symm) e
    · rw [getD_set_ne h2, Int.sub_zero]
theorem fold_at : ∀ (F : List Fil) (L : List Ord), L.Pairwise (fun x y => x.id ≠ y.id) → ∀ {i : Nat}, i < L.length → (F.foldl less L).getD i ord0 = { L.getD i ord0 with amount := (L.getD i ord0).amount - got F (L.getD i ord0).id }
  | [], L, h, i, hi => by simp [got]
  | f :: F, L, h, i, hi => by
    have h2 : (less L f).Pairwise fun x y => x.id ≠ y.id := (pw_map (less_map L f)).1.2 h
    rw [List.foldl_cons, fold_at F (less L f) h2 (by rw [less_length]; exact hi), less_at h f hi, got_cons]
    generalize L.getD i ord0 = q
    obtain ⟨qi, qo, qp, qa, qpl, qb⟩ := q
    simp only [Ord.mk.injEq, true_and, and_true]
    omega
theorem got_one : ∀ {F : List Fil} (h : (F.map (·.id)).Pairwise (· ≠ ·)) {f : Fil}, f ∈ F → got F f.id = f.amount
  | [], h, f, hf => by cases hf
  | g :: F, h, f, hf => by
    rw [List.map_cons, List.pairwise_cons] at h
    rw [got_cons]
    rcases List.mem_cons.1 hf with rfl | hf
    · rw [if_pos rfl]
      have : got F f.id = 0 := by
        unfold got
        rw [List.filter_eq_nil_iff.2 fun g hg => ?_]; rfl
        simpa using fun e => h.1 g.id (List.mem_map_of_mem hg) e.symm
      omega
    · rw [if_neg fun e => h.1 f.id (List.mem_map_of_mem hf) e, got_one h.2 hf]; omega
theorem got_none {F : List Fil} {id : Int} (h : ∀ f ∈ F, f.id ≠ id) : got F id = 0 := by
  unfold got
  rw [List.filter_eq_nil_iff.2 fun g hg => by simpa using h g hg]; rfl
theorem rights_all {b : Bk} (h : b.Ok) : Ca.rights b.l = b.l := by
  unfold Ca.rights
  rw [if_neg (by have := h.few; omega), List.filter_eq_self.2 h.right]
/-- Of each order nothing or something is traded, not more than it has. -/
theorem got_range {b : Bk} (h : b.Ok) (p n : Int) {o : Ord} (ho : o ∈ b.l) : 0 ≤ got (Ca.fills b.l p n) o.id ∧ got (Ca.fills b.l p n) o.id ≤ o.amount := by
  have h1 := (Ord.right_iff o).1 (h.right o ho)
  by_cases he : ∃ f ∈ Ca.fills b.l p n, f.id = o.id
  · obtain ⟨f, hf, e⟩ := he
    obtain ⟨q, hq, e1, _, h2, h3⟩ := Ca.fills_mem hf
    rw [rights_all h] at hq
    have : q = o := Ca.id_inj h.ids hq ho (e1.symm.trans e)
    rw [← e, got_one (Ca.fills_ids h.ids p n) hf, ← this]
    omega
  · rw [got_none fun f hf e => he ⟨f, hf, e⟩]
    omega
theorem after_mem {b : Bk} (h : b.Ok) (p n : Int) {x : Ord} (hx : x ∈ after b.l (Ca.fills b.l p n)) : ∃ o ∈ b.l, x = { o with amount := o.amount - got (Ca.fills b.l p n) o.id } ∧ 1 ≤ x.amount ∧ x.amount ≤ o.amount := by
  obtain ⟨h1, h2⟩ := List.mem_filter.1 hx
  obtain ⟨i, hi, e⟩ := List.getElem_of_mem h1
  rw [fold_length] at hi
  have h3 := fold_at (Ca.fills b.l p n) b.l h.ids hi
  rw [List.getD_eq_getElem?_getD (l := List.foldl _ _ _), List.getElem?_eq_getElem (by rw [fold_length]; exact hi)] at h3
  have h4 : x = { b.l.getD i ord0 with amount := (b.l.getD i ord0).amount - got (Ca.fills b.l p n) (b.l.getD i ord0).id } := by rw [← e]; exact h3
  have h5 := got_range h p n (getD_mem hi)
  refine ⟨_, getD_mem hi, h4, ?_⟩
  have h6 : x.amount ≠ 0 := by simpa using h2
  have h7 : x.amount = (b.l.getD i ord0).amount - got (Ca.fills b.l p n) (b.l.getD i ord0).id := by rw [h4]
  omega
theorem clear_ok {b : Bk} (h : b.Ok) : b.clear.1.Ok := by
  unfold clear
  have hm := fold_map (Ca.fills b.l (Ca.cross b.l).1 (Ca.cross b.l).2) b.l
  have hs : List.Sublist (after b.l (Ca.fills b.l (Ca.cross b.l).1 (Ca.cross b.l).2)) ((Ca.fills b.l (Ca.cross b.l).1 (Ca.cross b.l).2).foldl less b.l) := List.filter_sublist
  refine ⟨?_, fun x hx => ?_, ((pw_map hm).1.2 h.ids).sublist hs, ((pw_map hm).2.2 h.places).sublist hs, fun x hx => ?_, h.next0, h.next1⟩
  · have := hs.length_le
    rw [fold_length] at this
    exact Nat.le_trans this h.few
  · obtain ⟨o, ho, e, h1, h2⟩ := after_mem h _ _ hx
    have h3 := (Ord.right_iff o).1 (h.right o ho)
    rw [e] at h1 h2 ⊢
    exact (Ord.right_iff _).2 ⟨h3.1, h3.2.1, h3.2.2.1, h3.2.2.2.1, h3.2.2.2.2.1, h3.2.2.2.2.2.1, h1, Int.le_trans h2 h3.2.2.2.2.2.2.2⟩
  · obtain ⟨o, ho, e, _⟩ := after_mem h _ _ hx
    rw [e]
    exact h.span o ho
end Bk
end Go.Proofs.Ytilbhnloelgpdaa
