/- A book, in plain. -/
import Derived.Test.YtilbhnloelgpdaaOFills
namespace Go.Proofs.Ytilbhnloelgpdaa
open Go.RowKit
set_option linter.unusedVariables false
set_option linter.unusedSimpArgs false
structure Bk where
  l : List Ord
  next : Int
namespace Bk
/-- Where an order stands; the list's length: nowhere. -/
def ix (L : List Ord) (id : Int) : Nat := L.findIdx fun o => o.id == id
def at_ (L : List Ord) (id : Int) : Int := if ix L id < L.length then (ix L id : Int) else -1
def fresh : Bk := ⟨[], 1⟩
structure Ok (b : Bk) : Prop where
  few : b.l.length ≤ 64
  right : ∀ o ∈ b.l, o.right = true
  ids : b.l.Pairwise fun x y => x.id ≠ y.id
  places : b.l.Pairwise fun x y => x.place < y.place
  span : ∀ o ∈ b.l, 0 < o.place ∧ o.place < b.next
  next0 : 1 ≤ b.next
  next1 : b.next ≤ 9007199254740992
theorem fresh_ok : fresh.Ok := ⟨by decide, nofun, List.Pairwise.nil, List.Pairwise.nil, nofun, by decide, by decide⟩
def put (b : Bk) (o : Ord) : Bk × Int :=
  if ¬ (o.right = true ∧ o.place = 0) then (b, 1)
  else if ix b.l o.id < b.l.length then (b, 63)
  else if b.l.length = 64 ∨ 9007199254740992 ≤ b.next then (b, 2)
  else (⟨b.l ++ [{ o with place := b.next }], b.next + 1⟩, 0)
def mine (b : Bk) (id owner : Int) : Int × Int :=
  if ix b.l id < b.l.length then (if (b.l.getD (ix b.l id) ord0).owner = owner then ((ix b.l id : Int), 0) else (0, 80)) else (0, 3)
def amend (b : Bk) (id owner price amount : Int) : Bk × Int :=
  if (b.mine id owner).2 ≠ 0 then (b, (b.mine id owner).2)
  else
    let i := ix b.l id
    let o := b.l.getD i ord0
    let o2 : Ord := { o with price := price, amount := amount }
    if ¬ o2.right = true then (b, 1)
    else if price = o.price ∧ amount ≤ o.amount then (⟨b.l.set i o2, b.next⟩, 0)
    else if 9007199254740992 ≤ b.next then (b, 2)
    else (⟨b.l.eraseIdx i ++ [{ o2 with place := b.next }], b.next + 1⟩, 0)
def cancel (b : Bk) (id owner : Int) : Bk × Int :=
  if (b.mine id owner).2 ≠ 0 then (b, (b.mine id owner).2) else (⟨b.l.eraseIdx (ix b.l id), b.next⟩, 0)
def get (b : Bk) (id : Int) : Ord × Bool := if ix b.l id < b.l.length then (b.l.getD (ix b.l id) ord0, true) else (ord0, false)
/-- As much less of the order of that number. -/
def less (L : List Ord) (f : Fil) : List Ord := L.set (ix L f.id) { L.getD (ix L f.id) ord0 with amount := (L.getD (ix L f.id) ord0).amount - f.amount }
def after (L : List Ord) (F : List Fil) : List Ord := (F.foldl less L).filter fun o => !(o.amount == 0)
def clear (b : Bk) : Bk × (Int × Int) × List Fil :=
  (⟨after b.l (Ca.fills b.l (Ca.cross b.l).1 (Ca.cross b.l).2), b.next⟩, Ca.cross b.l, Ca.fills b.l (Ca.cross b.l).1 (Ca.cross b.l).2)
theorem ix_le (L : List Ord) (id : Int) : ix L id ≤ L.length := List.findIdx_le_length
theorem ix_id {L : List Ord} {id : Int} (h : ix L id < L.length) : (L.getD (ix L id) ord0).id = id := by
  have := List.findIdx_getElem (p := fun o : Ord => o.id == id) (w := h)
  rw [List.getD_eq_getElem?_getD, List.getElem?_eq_getElem h]
  exact of_decide_eq_true this
theorem ix_not {L : List Ord} {id : Int} {i : Nat} (h : i < ix L id) : (L.getD i ord0).id ≠ id := by
  have hl : i < L.length := Nat.lt_of_lt_of_le h (ix_le L id)
  have := List.not_of_lt_findIdx (p := fun o : Ord => o.id == id) h
  rw [List.getD_eq_getElem?_getD, List.getElem?_eq_getElem hl]
  simpa using this
theorem ix_mem {L : List Ord} {id : Int} : ix L id < L.length ↔ ∃ o ∈ L, o.id = id := by
  constructor
  · intro h
    exact ⟨_, getD_mem h, ix_id h⟩
  · rintro ⟨o, ho, rfl⟩
    exact List.findIdx_lt_length_of_exists ⟨o, ho, by simp⟩
/-- In a list of unlike numbers each stands where its number does. -/
theorem ix_at {L : List Ord} (h : L.Pairwise fun x y => x.id ≠ y.id) {i : Nat} (hi : i < L.length) : ix L (L.getD i ord0).id = i := by
  have h1 : ix L (L.getD i ord0).id < L.length := ix_mem.2 ⟨_, getD_mem hi, rfl⟩
  rcases Nat.lt_trichotomy (ix L (L.getD i ord0).id) i with h2 | h2 | h2
  · exfalso
    have := List.pairwise_iff_getElem.1 h _ _ h1 hi h2
    have e := ix_id h1
    have e1 : ∀ k (hk : k < L.length), (L.getD k ord0).id = (L[k]'hk).id := fun k hk => by rw [List.getD_eq_getElem?_getD, List.getElem?_eq_getElem hk]; rfl
    exact this ((e1 _ h1).symm.trans (e.trans (e1 _ hi)))
  · exact h2
  · exact absurd rfl (ix_not h2)
theorem mem_set_cases {L : List Ord} {i : Nat} {o x : Ord} (h : x ∈ L.set i o) : x ∈ L ∨ x = o := List.mem_or_eq_of_mem_set h
theorem put_ok {b : Bk} (h : b.Ok) (o : Ord) : (b.put o).1.Ok := by
  unfold put
  split
  · exact h
  rename_i h1
  split
  · exact h
  rename_i h2
  split
  · exact h
  rename_i h3
  have h1' : o.right = true ∧ o.place = 0 := by
    by_cases hh : o.right = true ∧ o.place = 0
    · exact hh
    · exact absurd hh h1
  have hn0 := h.next0
  have hf := h.few
  refine ⟨by simp only [List.length_append, List.length_cons, List.length_nil]; omega, fun x hx => ?_, List.pairwise_append.2 ⟨h.ids, List.pairwise_singleton _ _, fun x hx y hy => ?_⟩, List.pairwise_append.2 ⟨h.places, List.pairwise_singleton _ _, fun x hx y hy => ?_⟩, fun x hx => ?_, by show 1 ≤ b.next + 1; omega, by show b.next + 1 ≤ _; omega⟩
  · rcases List.mem_append.1 hx with hx | hx
    · exact h.right x hx
    · rw [List.mem_singleton.1 hx]; exact h1'.1
  · rw [List.mem_singleton.1 hy]
    intro e
    exact h2 (ix_mem.2 ⟨x, hx, e⟩)
  · rw [List.mem_singleton.1 hy]; exact (h.span x hx).2
  · show 0 < x.place ∧ x.place < b.next + 1
    rcases List.mem_append.1 hx with hx | hx
    · have := h.span x hx; omega
    · rw [List.mem_singleton.1 hx]
      exact ⟨by show 0 < b.next; omega, by show b.next < b.next + 1; omega⟩
theorem getD_set_ne {L : List Ord} {i j : Nat} (h : i ≠ j) (o : Ord) : (L.set i o).getD j ord0 = L.getD j ord0 := by
  rw [List.getD_eq_getElem?_getD, List.getD_eq_getElem?_getD, List.getElem?_set_ne h]
theorem getD_set_self {L : List Ord} {i : Nat} (h : i < L.length) (o : Ord) : (L.set i o).getD i ord0 = o := by
  rw [List.getD_eq_getElem?_getD, List.getElem?_set_self h]; rfl
/-- A list whose i-th is another one of the same number and place. -/
theorem set_same_map {L : List Ord} {i : Nat} {o : Ord} (h1 : o.id = (L.getD i ord0).id) (h2 : o.place = (L.getD i ord0).place) : (L.set i o).map (fun x => (x.id, x.place)) = L.map fun x => (x.id, x.place) := by
  apply List.ext_getElem?
  intro j
  rw [List.map_set, List.getElem?_set]
  by_cases e : i = j
  · subst e
    rw [if_pos rfl]
    by_cases hl : i < L.length
    · rw [if_pos (by simpa using hl), List.getElem?_map, List.getElem?_eq_getElem hl, h1, h2, List.getD_eq_getElem?_getD, List.getElem?_eq_getElem hl]; rfl
    · rw [if_neg (by simpa using hl), List.getElem?_map, List.getElem?_eq_none (by omega)]; rfl
  · rw [if_neg e]
theorem pw_map {L M : List Ord} (h : L.map (fun x => (x.id, x.place)) = M.map fun x => (x.id, x.place)) : (L.Pairwise (fun x y => x.id ≠ y.id) ↔ M.Pairwise fun x y => x.id ≠ y.id) ∧ (L.Pairwise (fun x y => x.place < y.place) ↔ M.Pairwise fun x y => x.place < y.place) := by
  have e1 : ∀ K : List Ord, K.Pairwise (fun x y => x.id ≠ y.id) ↔ (K.map fun x => (x.id, x.place)).Pairwise fun x y => x.1 ≠ y.1 := fun K => by rw [List.pairwise_map]
  have e2 : ∀ K : List Ord, K.Pairwise (fun x y => x.place < y.place) ↔ (K.map fun x => (x.id, x.place)).Pairwise fun x y => x.2 < y.2 := fun K => by rw [List.pairwise_map]
  exact ⟨by rw [e1, e1, h], by rw [e2, e2, h]⟩
theorem erase_sub (L : List Ord) (i : Nat) : List.Sublist (L.eraseIdx i) L := List.eraseIdx_sublist L i
theorem cancel_ok {b : Bk} (h : b.Ok) (id owner : Int) : (b.cancel id owner).1.Ok := by
  unfold cancel
  split
  · exact h
  · have hs := erase_sub b.l (ix b.l id)
    exact ⟨Nat.le_trans hs.length_le h.few, fun o ho => h.right o (hs.subset ho), h.ids.sublist hs, h.places.sublist hs, fun o ho => h.span o (hs.subset ho), h.next0, h.next1⟩
theorem mine_zero {b : Bk} {id owner : Int} (h : (b.mine id owner).2 = 0) : ix b.l id < b.l.length ∧ (b.l.getD (ix b.l id) ord0).owner = owner ∧ b.mine id owner = ((ix b.l id : Int), 0) := by
  unfold mine at h ⊢
  by_cases h1 : ix b.l id < b.l.length
  · rw [if_pos h1] at h ⊢
    by_cases h2 : (b.l.getD (ix b.l id) ord0).owner = owner
    · rw [if_pos h2]; exact ⟨h1, h2, rfl⟩
    · rw [if_neg h2] at h; exact absurd h (by decide)
  · rw [if_neg h1] at h; exact absurd h (by decide)
theorem amend_ok {b : Bk} (h : b.Ok) (id owner price amount : Int) : (b.amend id owner price amount).1.Ok := by
  unfold amend
  split
  · exact h
  rename_i h0
  have h0' : (b.mine id owner).2 = 0 := by
    by_cases hh : (b.mine id owner).2 = 0
    · exact hh
    · exact absurd hh h0
  obtain ⟨hi, _, _⟩ := mine_zero h0'
  simp only
  split
  · exact h
  rename_i h1
  have h1' : ({ b.l.getD (ix b.l id) ord0 with price := price, amount := amount } : Ord).right = true := by
    by_cases hh : ({ b.l.getD (ix b.l id) ord0 with price := price, amount := amount } : Ord).right = true
    · exact hh
    · exact absurd hh h1
  split
  · obtain ⟨p1, p2⟩ := pw_map (set_same_map (L := b.l) (i := ix b.l id) (o := { b.l.getD (ix b.l id) ord0 with price := price, amount := amount }) rfl rfl)
    refine ⟨by show (b.l.set _ _).length ≤ _; rw [List.length_set]; exact h.few, fun o ho => ?_, p1.2 h.ids, p2.2 h.places, fun o ho => ?_, h.next0, h.next1⟩
    · rcases mem_set_cases ho with ho | rfl
      · exact h.right o ho
      · exact h1'
    · rcases mem_set_cases ho with ho | rfl
      · exact h.span o ho
      · exact (show 0 < (b.l.getD (ix b.l id) ord0).place ∧ (b.l.getD (ix b.l id) ord0).place < b.next from h.span _ (getD_mem hi))
  split
  · exact h
  · rename_i h3 h4
    have hs := erase_sub b.l (ix b.l id)
    have hn0 := h.next0
    have hlen : (b.l.eraseIdx (ix b.l id)).length + 1 = b.l.length := by rw [List.length_eraseIdx_of_lt hi]; omega
    refine ⟨by have := h.few; simp only [List.length_append, List.length_cons, List.length_nil]; omega, fun x hx => ?_, List.pairwise_append.2 ⟨h.ids.sublist hs, List.pairwise_singleton _ _, fun x hx y hy => ?_⟩, List.pairwise_append.2 ⟨h.places.sublist hs, List.pairwise_singleton _ _, fun x hx y hy => ?_⟩, fun x hx => ?_, by show 1 ≤ b.next + 1; omega, by show b.next + 1 ≤ _; omega⟩
    · rcases List.mem_append.1 hx with hx | hx
      · exact h.right x (hs.subset hx)
      · rw [List.mem_singleton.1 hx]; exact h1'
    · rw [List.mem_singleton.1 hy]
      show x.id ≠ (b.l.getD (ix b.l id) ord0).id
      obtain ⟨j, hj, e⟩ := List.getElem_of_mem hx
      rw [List.getElem_eraseIdx] at e
      have hne : ∀ k (hk : k < b.l.length), k ≠ ix b.l id → (b.l[k]'hk).id ≠ (b.l.getD (ix b.l id) ord0).id := fun k hk hne e2 => by
        have h5 := ix_at h.ids hk
        rw [List.getD_eq_getElem?_getD (l := b.l) (i := k), List.getElem?_eq_getElem hk] at h5
        have h6 : ix b.l (b.l[k]'hk).id = k := h5
        rw [e2, ix_id hi] at h6
        exact hne h6.symm
      split at e
      · rw [← e]; exact hne j (by omega) (by omega)
      · rw [← e]; exact hne (j + 1) (by omega) (by omega)
    · rw [List.mem_singleton.1 hy]; exact (h.span x (hs.subset hx)).2
    · show 0 < x.place ∧ x.place < b.next + 1
      rcases List.mem_append.1 hx with hx | hx
      · have := h.span x (hs.subset hx); omega
      · rw [List.mem_singleton.1 hx]
        exact ⟨by show 0 < b.next; omega, by show b.next < b.next + 1; omega⟩
end Bk
end Go.Proofs.Ytilbhnloelgpdaa
