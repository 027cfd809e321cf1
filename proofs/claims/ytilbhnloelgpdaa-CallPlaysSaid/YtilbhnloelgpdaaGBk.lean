/- A book, in plain. A book in memory; where an order stands. New, Get, Orders, mine. slices.Delete at orders: one is taken out of a row that may be written. Put. slices.DeleteFunc at orders and Clear's own function: those without an amount go. -/
import Derived.Test.YtilbhnloelgpdaaGFil
import Derived.Deep.RegionLaw
import Derived.BigRegion
namespace Go.Proofs.Ytilbhnloelgpdaa
open Go.RowKit
set_option linter.unusedVariables false
set_option linter.unusedSimpArgs false
structure Bk where
  l : List Ord
  next : Int
namespace Bk
/-- Where an order stands; the list's length: nowhere. -/
def ix (L : List Ord) (id : Int) : Nat := L.findIdx fun o => o.id == id
def at_ (L : List Ord) (id : Int) : Int := if ix L id < L.length then (ix L id : Int) else -1
def fresh : Bk := ⟨[], 1⟩
structure Ok (b : Bk) : Prop where
  few : b.l.length ≤ 64
  right : ∀ o ∈ b.l, o.right = true
  ids : b.l.Pairwise fun x y => x.id ≠ y.id
  places : b.l.Pairwise fun x y => x.place < y.place
  span : ∀ o ∈ b.l, 0 < o.place ∧ o.place < b.next
  next0 : 1 ≤ b.next
  next1 : b.next ≤ 9007199254740992
theorem fresh_ok : fresh.Ok := ⟨by decide, nofun, List.Pairwise.nil, List.Pairwise.nil, nofun, by decide, by decide⟩
def put (b : Bk) (o : Ord) : Bk × Int :=
  if ¬ (o.right = true ∧ o.place = 0) then (b, 1)
  else if ix b.l o.id < b.l.length then (b, 63)
  else if b.l.length = 64 ∨ 9007199254740992 ≤ b.next then (b, 2)
  else (⟨b.l ++ [{ o with place := b.next }], b.next + 1⟩, 0)
def mine (b : Bk) (id owner : Int) : Int × Int :=
  if ix b.l id < b.l.length then (if (b.l.getD (ix b.l id) ord0).owner = owner then ((ix b.l id : Int), 0) else (0, 80)) else (0, 3)
def amend (b : Bk) (id owner price amount : Int) : Bk × Int :=
  if (b.mine id owner).2 ≠ 0 then (b, (b.mine id owner).2)
  else
    let i := ix b.l id
    let o := b.l.getD i ord0
    let o2 : Ord := { o with price := price, amount := amount }
    if ¬ o2.right = true then (b, 1)
    else if price = o.price ∧ amount ≤ o.amount then (⟨b.l.set i o2, b.next⟩, 0)
    else if 9007199254740992 ≤ b.next then (b, 2)
    else (⟨b.l.eraseIdx i ++ [{ o2 with place := b.next }], b.next + 1⟩, 0)
def cancel (b : Bk) (id owner : Int) : Bk × Int :=
  if (b.mine id owner).2 ≠ 0 then (b, (b.mine id owner).2) else (⟨b.l.eraseIdx (ix b.l id), b.next⟩, 0)
def get (b : Bk) (id : Int) : Ord × Bool := if ix b.l id < b.l.length then (b.l.getD (ix b.l id) ord0, true) else (ord0, false)
/-- As much less of the order of that number. -/
def less (L : List Ord) (f : Fil) : List Ord := L.set (ix L f.id) { L.getD (ix L f.id) ord0 with amount := (L.getD (ix L f.id) ord0).amount - f.amount }
def after (L : List Ord) (F : List Fil) : List Ord := (F.foldl less L).filter fun o => !(o.amount == 0)
def clear (b : Bk) : Bk × (Int × Int) × List Fil :=
  (⟨after b.l (Ca.fills b.l (Ca.cross b.l).1 (Ca.cross b.l).2), b.next⟩, Ca.cross b.l, Ca.fills b.l (Ca.cross b.l).1 (Ca.cross b.l).2)
theorem ix_le (L : List Ord) (id : Int) : ix L id ≤ L.length := List.findIdx_le_length
theorem ix_id {L : List Ord} {id : Int} (h : ix L id < L.length) : (L.getD (ix L id) ord0).id = id := by
  have := List.findIdx_getElem (p := fun o : Ord => o.id == id) (w := h)
  rw [List.getD_eq_getElem?_getD, List.getElem?_eq_getElem h]
  exact of_decide_eq_true this
theorem ix_not {L : List Ord} {id : Int} {i : Nat} (h : i < ix L id) : (L.getD i ord0).id ≠ id := by
  have hl : i < L.length := Nat.lt_of_lt_of_le h (ix_le L id)
  have := List.not_of_lt_findIdx (p := fun o : Ord => o.id == id) h
  rw [List.getD_eq_getElem?_getD, List.getElem?_eq_getElem hl]
  simpa using this
theorem ix_mem {L : List Ord} {id : Int} : ix L id < L.length ↔ ∃ o ∈ L, o.id = id := by
  constructor
  · intro h
    exact ⟨_, getD_mem h, ix_id h⟩
  · rintro ⟨o, ho, rfl⟩
    exact List.findIdx_lt_length_of_exists ⟨o, ho, by simp⟩
/-- In a list of unlike numbers each stands where its number does. -/
theorem ix_at {L : List Ord} (h : L.Pairwise fun x y => x.id ≠ y.id) {i : Nat} (hi : i < L.length) : ix L (L.getD i ord0).id = i := by
  have h1 : ix L (L.getD i ord0).id < L.length := ix_mem.2 ⟨_, getD_mem hi, rfl⟩
  rcases Nat.lt_trichotomy (ix L (L.getD i ord0).id) i with h2 | h2 | h2
  · exfalso
    have := List.pairwise_iff_getElem.1 h _ _ h1 hi h2
    have e := ix_id h1
    have e1 : ∀ k (hk : k < L.length), (L.getD k ord0).id = (L[k]'hk).id := fun k hk => by rw [List.getD_eq_getElem?_getD, List.getElem?_eq_getElem hk]; rfl
    exact this ((e1 _ h1).symm.trans (e.trans (e1 _ hi)))
  · exact h2
  · exact absurd rfl (ix_not h2)
theorem mem_set_cases {L : List Ord} {i : Nat} {o x : Ord} (h : x ∈ L.set i o) : x ∈ L ∨ x = o := List.mem_or_eq_of_mem_set h
theorem put_ok {b : Bk} (h : b.Ok) (o : Ord) : (b.put o).1.Ok := by
  unfold put
  split
  · exact h
  rename_i h1
  split
  · exact h
  rename_i h2
  split
  · exact h
  rename_i h3
  have h1' : o.right = true ∧ o.place = 0 := by
    by_cases hh : o.right = true ∧ o.place = 0
    · exact hh
    · exact absurd hh h1
  have hn0 := h.next0
  have hf := h.few
  refine ⟨by simp only [List.length_append, List.length_cons, List.length_nil]; omega, fun x hx => ?_, List.pairwise_append.2 ⟨h.ids, List.pairwise_singleton _ _, fun x hx y hy => ?_⟩, List.pairwise_append.2 ⟨h.places, List.pairwise_singleton _ _, fun x hx y hy => ?_⟩, fun x hx => ?_, by show 1 ≤ b.next + 1; omega, by show b.next + 1 ≤ _; omega⟩
  · rcases List.mem_append.1 hx with hx | hx
    · exact h.right x hx
    · rw [List.mem_singleton.1 hx]; exact h1'.1
  · rw [List.mem_singleton.1 hy]
    intro e
    exact h2 (ix_mem.2 ⟨x, hx, e⟩)
  · rw [List.mem_singleton.1 hy]; exact (h.span x hx).2
  · show 0 < x.place ∧ x.place < b.next + 1
    rcases List.mem_append.1 hx with hx | hx
    · have := h.span x hx; omega
    · rw [List.mem_singleton.1 hx]
      exact ⟨by show 0 < b.next; omega, by show b.next < b.next + 1; omega⟩
theorem getD_set_ne {L : List Ord} {i j : Nat} (h : i ≠ j) (o : Ord) : (L.set i o).getD j ord0 = L.getD j ord0 := by
  rw [List.getD_eq_getElem?_getD, List.getD_eq_getElem?_getD, List.getElem?_set_ne h]
theorem getD_set_self {L : List Ord} {i : Nat} (h : i < L.length) (o : Ord) : (L.set i o).getD i ord0 = o := by
  rw [List.getD_eq_getElem?_getD, List.getElem?_set_self h]; rfl
/-- A list whose i-th is another one of the same number and place. -/
theorem set_same_map {L : List Ord} {i : Nat} {o : Ord} (h1 : o.id = (L.getD i ord0).id) (h2 : o.place = (L.getD i ord0).place) : (L.set i o).map (fun x => (x.id, x.place)) = L.map fun x => (x.id, x.place) := by
  apply List.ext_getElem?
  intro j
  rw [List.map_set, List.getElem?_set]
  by_cases e : i = j
  · subst e
    rw [if_pos rfl]
    by_cases hl : i < L.length
    · rw [if_pos (by simpa using hl), List.getElem?_map, List.getElem?_eq_getElem hl, h1, h2, List.getD_eq_getElem?_getD, List.getElem?_eq_getElem hl]; rfl
    · rw [if_neg (by simpa using hl), List.getElem?_map, List.getElem?_eq_none (by omega)]; rfl
  · rw [if_neg e]
theorem pw_map {L M : List Ord} (h : L.map (fun x => (x.id, x.place)) = M.map fun x => (x.id, x.place)) : (L.Pairwise (fun x y => x.id ≠ y.id) ↔ M.Pairwise fun x y => x.id ≠ y.id) ∧ (L.Pairwise (fun x y => x.place < y.place) ↔ M.Pairwise fun x y => x.place < y.place) := by
  have e1 : ∀ K : List Ord, K.Pairwise (fun x y => x.id ≠ y.id) ↔ (K.map fun x => (x.id, x.place)).Pairwise fun x y => x.1 ≠ y.1 := fun K => by rw [List.pairwise_map]
  have e2 : ∀ K : List Ord, K.Pairwise (fun x y => x.place < y.place) ↔ (K.map fun x => (x.id, x.place)).Pairwise fun x y => x.2 < y.2 := fun K => by rw [List.pairwise_map]
  exact ⟨by rw [e1, e1, h], by rw [e2, e2, h]⟩
theorem erase_sub (L : List Ord) (i : Nat) : List.Sublist (L.eraseIdx i) L := List.eraseIdx_sublist L i
theorem cancel_ok {b : Bk} (h : b.Ok) (id owner : Int) : (b.cancel id owner).1.Ok := by
  unfold cancel
  split
  · exact h
  · have hs := erase_sub b.l (ix b.l id)
    exact ⟨Nat.le_trans hs.length_le h.few, fun o ho => h.right o (hs.subset ho), h.ids.sublist hs, h.places.sublist hs, fun o ho => h.span o (hs.subset ho), h.next0, h.next1⟩
theorem mine_zero {b : Bk} {id owner : Int} (h : (b.mine id owner).2 = 0) : ix b.l id < b.l.length ∧ (b.l.getD (ix b.l id) ord0).owner = owner ∧ b.mine id owner = ((ix b.l id : Int), 0) := by
  unfold mine at h ⊢
  by_cases h1 : ix b.l id < b.l.length
  · rw [if_pos h1] at h ⊢
    by_cases h2 : (b.l.getD (ix b.l id) ord0).owner = owner
    · rw [if_pos h2]; exact ⟨h1, h2, rfl⟩
    · rw [if_neg h2] at h; exact absurd h (by decide)
  · rw [if_neg h1] at h; exact absurd h (by decide)
theorem amend_ok {b : Bk} (h : b.Ok) (id owner price amount : Int) : (b.amend id owner price amount).1.Ok := by
  unfold amend
  split
  · exact h
  rename_i h0
  have h0' : (b.mine id owner).2 = 0 := by
    by_cases hh : (b.mine id owner).2 = 0
    · exact hh
    · exact absurd hh h0
  obtain ⟨hi, _, _⟩ := mine_zero h0'
  simp only
  split
  · exact h
  rename_i h1
  have h1' : ({ b.l.getD (ix b.l id) ord0 with price := price, amount := amount } : Ord).right = true := by
    by_cases hh : ({ b.l.getD (ix b.l id) ord0 with price := price, amount := amount } : Ord).right = true
    · exact hh
    · exact absurd hh h1
  split
  · obtain ⟨p1, p2⟩ := pw_map (set_same_map (L := b.l) (i := ix b.l id) (o := { b.l.getD (ix b.l id) ord0 with price := price, amount := amount }) rfl rfl)
    refine ⟨by show (b.l.set _ _).length ≤ _; rw [List.length_set]; exact h.few, fun o ho => ?_, p1.2 h.ids, p2.2 h.places, fun o ho => ?_, h.next0, h.next1⟩
    · rcases mem_set_cases ho with ho | rfl
      · exact h.right o ho
      · exact h1'
    · rcases mem_set_cases ho with ho | rfl
      · exact h.span o ho
      · exact (show 0 < (b.l.getD (ix b.l id) ord0).place ∧ (b.l.getD (ix b.l id) ord0).place < b.next from h.span _ (getD_mem hi))
  split
  · exact h
  · rename_i h3 h4
    have hs := erase_sub b.l (ix b.l id)
    have hn0 := h.next0
    have hlen : (b.l.eraseIdx (ix b.l id)).length + 1 = b.l.length := by rw [List.length_eraseIdx_of_lt hi]; omega
    refine ⟨by have := h.few; simp only [List.length_append, List.length_cons, List.length_nil]; omega, fun x hx => ?_, List.pairwise_append.2 ⟨h.ids.sublist hs, List.pairwise_singleton _ _, fun x hx y hy => ?_⟩, List.pairwise_append.2 ⟨h.places.sublist hs, List.pairwise_singleton _ _, fun x hx y hy => ?_⟩, fun x hx => ?_, by show 1 ≤ b.next + 1; omega, by show b.next + 1 ≤ _; omega⟩
    · rcases List.mem_append.1 hx with hx | hx
      · exact h.right x (hs.subset hx)
      · rw [List.mem_singleton.1 hx]; exact h1'
    · rw [List.mem_singleton.1 hy]
      show x.id ≠ (b.l.getD (ix b.l id) ord0).id
      obtain ⟨j, hj, e⟩ := List.getElem_of_mem hx
      rw [List.getElem_eraseIdx] at e
      have hne : ∀ k (hk : k < b.l.length), k ≠ ix b.l id → (b.l[k]'hk).id ≠ (b.l.getD (ix b.l id) ord0).id := fun k hk hne e2 => by
        have h5 := ix_at h.ids hk
        rw [List.getD_eq_getElem?_getD (l := b.l) (i := k), List.getElem?_eq_getElem hk] at h5
        have h6 : ix b.l (b.l[k]'hk).id = k := h5
        rw [e2, ix_id hi] at h6
        exact hne h6.symm
      split at e
      · rw [← e]; exact hne j (by omega) (by omega)
      · rw [← e]; exact hne (j + 1) (by omega) (by omega)
    · rw [List.mem_singleton.1 hy]; exact (h.span x (hs.subset hx)).2
    · show 0 < x.place ∧ x.place < b.next + 1
      rcases List.mem_append.1 hx with hx | hx
      · have := h.span x (hs.subset hx); omega
      · rw [List.mem_singleton.1 hx]
        exact ⟨by show 0 < b.next; omega, by show b.next < b.next + 1; omega⟩
end Bk
end Go.Proofs.Ytilbhnloelgpdaa
namespace Go.Proofs.Ytilbhnloelgpdaa
open Go.RowKit
set_option linter.unusedVariables false
set_option linter.unusedSimpArgs false
structure AtB (w : World) (g : Nat) (gl : Option Nat) (b : Bk) : Prop where
  box : ∃ A c, Blk w g 76 #[.slice A b.l.length c, .int .i64 b.next] ∧ Own w 6 (.slice A b.l.length c) gl b.l.length (ocells b.l)
  apart : gl ≠ some g
  ok : b.Ok
theorem AtB.below {w w' : World} {g : Nat} {gl : Option Nat} {b : Bk} (h : AtB w g gl b) (hb : Below w.heap.size w w') : AtB w' g gl b := by
  obtain ⟨A, c, h1, h2⟩ := h.box
  exact ⟨⟨A, c, h1.below hb h1.lt, h2.below hb⟩, h.apart, h.ok⟩
theorem AtB.lt {w : World} {g : Nat} {gl : Option Nat} {b : Bk} (h : AtB w g gl b) : g < w.heap.size := by
  obtain ⟨A, c, h1, h2⟩ := h.box
  exact h1.lt
/-- Another world in which its two blocks are as they were. -/
theorem AtB.carry {w w' : World} {g : Nat} {gl : Option Nat} {b : Bk} (h : AtB w g gl b) (hs : w.heap.size ≤ w'.heap.size) (h1 : w'.heap[g]? = w.heap[g]?) (h2 : ∀ k, gl = some k → w'.heap[k]? = w.heap[k]?) : AtB w' g gl b := by
  obtain ⟨A, c, k1, k2⟩ := h.box
  refine ⟨⟨A, c, ?_, k2.carry hs h2⟩, h.apart, h.ok⟩
  unfold Blk at k1 ⊢
  rw [h1]; exact k1
theorem Own.mine {w : World} {sz n : Nat} {v : Value} {b : Option Nat} {xs : List Value} (h : Own w sz v b n xs) {w0 : World} (hb : ∀ k, b = some k → w0.heap.size ≤ k) : Mine w0 w sz v n xs := ⟨b, h, hb⟩
theorem Own.orow {w : World} {A : Option Addr} {c m : Nat} {b : Option Nat} {L : List Ord} (h : Own w 6 (.slice A m c) b m (ocells L)) (hm : L.length = m) : m ≤ c ∧ c ≤ maxLen ∧ ORow w A L := by
  obtain ⟨A', c', e, h1, h2, h3⟩ := h.row
  cases e
  refine ⟨h1, h2, ?_⟩
  unfold ORow
  rw [hm]; exact h3
set_option maxHeartbeats 2000000 in
theorem isid_calls (w : World) (o : Ord) (id : Int) (k : Nat) (hc : w.cell? ⟨k, 0, none⟩ = some (.int .i64 id)) : Calls Try.prog 63 #[oval o, .pointer (some ⟨k, 0, none⟩)] w (Told w (.bool (o.id == id))) := by
  obtain ⟨i, ow, p, a, pl, b⟩ := o
  unfold oval
  simp only
  have hb0 : Hid (Below w.heap.size w (w.alloc (.cells #[.int .i64 i, .int .i64 ow, .int .i64 p, .int .i64 a, .int .i64 pl, .bool b] 33))) := Lib.hid ((Below.refl _ _).alloc (Nat.le_refl _) _)
  have B0 := Lib.hid (Blk.new w 33 #[.int .i64 i, .int .i64 ow, .int .i64 p, .int .i64 a, .int .i64 pl, .bool b])
  have hk : k < w.heap.size := World.block_lt_of_cell? _ _ hc
  have HK : Hid (∀ wx, Below w.heap.size w wx → wx.cell? ⟨k, 0, none⟩ = some (.int .i64 id)) := Lib.hid fun wx hb => (below_cell hb hk).trans hc
  clear hc hk
  go_enter Try.func63, Try.ntmps63
  go_upto_region 1 with (fail)
  obtain ⟨g, hg⟩ : ∃ g, w.heap.size = g := ⟨_, rfl⟩
  have HG := Lib.hid hg
  rw [hg] at B0 ⊢
  clear hg
  generalize World.alloc w _ = wy at hb0 B0 ⊢
  have HX : Hid (wy.cell? ⟨g, 0, none⟩ = some (.int .i64 i) ∧ wy.cell? ⟨k, 0, none⟩ = some (.int .i64 id)) := Lib.hid ⟨B0.out.cell 0, HK.out _ hb0.out⟩
  obtain ⟨c0, c1⟩ := HX.out
  go_wp2
  refine bodyPost_ret (by simp [results, Try.results63, asAddr, go_sem]; rfl) rfl ?_
  exact ⟨rfl, hb0.out⟩
set_option maxHeartbeats 2000000 in
theorem indexid_calls (w : World) (A : Option Addr) (L : List Ord) (c : Nat) (h : ORow w A L) (hl : L.length ≤ 64) (id : Int) (k : Nat) (hc : w.cell? ⟨k, 0, none⟩ = some (.int .i64 id)) :
    Calls Try.prog 62 #[.slice A L.length c, .func (.func 63) #[] #[.pointer (some ⟨k, 0, none⟩)]] w (Told w (.int .i64 (Bk.at_ L id))) := by
  have H := Lib.hid h
  obtain ⟨m, hm⟩ : ∃ m, Hid (L.length = m) := ⟨_, Lib.hid rfl⟩
  have hk : k < w.heap.size := World.block_lt_of_cell? _ _ hc
  have HR : Hid (∀ wx, Below w.heap.size w wx → ∀ o, Calls Try.prog 63 #[oval o, .pointer (some ⟨k, 0, none⟩)] wx (Told wx (.bool (o.id == id)))) := Lib.hid fun wx hb o => isid_calls wx o id k ((below_cell hb hk).trans hc)
  obtain ⟨d, hd⟩ : ∃ d, Hid (Bk.ix L id = d) := ⟨_, Lib.hid rfl⟩
  have HI : Hid (∀ i, i < L.length → (∀ j, j < i → (L.getD j ord0).id ≠ id) → (L.getD i ord0).id = id → d = i) := Lib.hid fun i hi hn he => by
    rw [← hd.out]
    have h1 : Bk.ix L id < L.length := Bk.ix_mem.2 ⟨_, getD_mem hi, he⟩
    rcases Nat.lt_trichotomy (Bk.ix L id) i with h2 | h2 | h2
    · exact absurd (Bk.ix_id h1) (hn _ h2)
    · exact h2
    · exact absurd he (Bk.ix_not h2)
  have HA : Hid ((∀ j, j < L.length → (L.getD j ord0).id ≠ id) → ¬ d < L.length) := Lib.hid fun hn hlt => by
    rw [← hd.out] at hlt
    exact hn _ hlt (Bk.ix_id hlt)
  unfold Bk.at_
  rw [hd.out]
  rw [hm.out] at hl HI HA ⊢
  obtain ⟨R, hR⟩ : ∃ R, Hid ((if d < m then (d : Int) else -1) = R) := ⟨_, Lib.hid rfl⟩
  rw [hR.out]
  clear h hc hk
  go_enter Try.func62, Try.ntmps62
  go_wp2
  go_loopg [5, 8] (m + 1) (fun gk s5 s8 wr => ∃ i : Nat, gk = m + 1 - i ∧ i ≤ m ∧ s8 = .int .i64 (i : Int) ∧ Hid (∀ j, j < i → (L.getD j ord0).id ≠ id) ∧ Hid (Below w.heap.size w wr))
  case atStart => exact ⟨0, rfl, Nat.zero_le _, rfl, Lib.hid fun j hj => absurd hj (Nat.not_lt_zero _), Lib.hid (Below.refl _ _)⟩
  case round =>
    obtain ⟨i, rfl, hi, rfl, hal, hb⟩ := hrel
    have i0 : (0 : Int) ≤ (i : Int) := by omega
    by_cases hlt : i < m
    · have hltI : (i : Int) < (m : Int) := by omega
      have hlL : Hid (i < L.length) := Lib.hid (by rw [hm.out]; exact hlt)
      obtain ⟨b, o, rfl⟩ : ∃ b o, A = some ⟨b, o, none⟩ := by
        obtain ⟨b, o, e, _⟩ := H.out.cells hlL.out
        exact ⟨b, o, e⟩
      have HC := Lib.hid (fun wx hh => ORow.six H.out hlL.out (w' := wx) hh)
      have HRr := Lib.hid (fun wx hh => HR.out wx hh (L.getD i ord0))
      have HSt := Lib.hid (HI.out i hlt hal.out)
      have HNx : Hid ((L.getD i ord0).id ≠ id → ∀ j, j < i + 1 → (L.getD j ord0).id ≠ id) := Lib.hid fun hr j hj => by
        rcases Nat.lt_or_eq_of_le (Nat.le_of_lt_succ hj) with h | h
        · exact hal.out j h
        · rw [h]; exact hr
      have HM := Lib.hid (show m + 1 - (i + 1) < m + 1 - i by omega)
      generalize L.getD i ord0 = q at HC HRr HSt HNx
      obtain ⟨qi, qo, qp, qa, qpl, qb⟩ := q
      unfold oval at HRr
      simp only at HC HRr HSt HNx
      obtain ⟨c0, c1, c2, c3, c4, c5⟩ := HC.out wr hb.out
      by_cases he : qi = id
      · have e1 := HSt.out he
        subst e1
        have hR' := hR.out
        rw [if_pos hlt] at hR'
        subst hR'
        have HRe : Hid (∀ wx, Below w.heap.size w wx → Calls Try.prog 63 #[.agg #[.int .i64 qi, .int .i64 qo, .int .i64 qp, .int .i64 qa, .int .i64 qpl, .bool qb], .pointer (some ⟨k, 0, none⟩)] wx (Told wx (.bool true))) := Lib.hid fun wx hh => by
          have := HRr.out wx hh
          rwa [show (qi == id) = true by simpa using he] at this
        clear HRr HSt HNx he
        go_wp2_with (go_at_call 63; (with_reducible refine (HRe.out _ hb.out).mono ?_); rintro e w1 ⟨rfl, hh⟩; have hb1 := Lib.hid (below_next hb.out hh); clear hh)
        refine bodyPost_ret (by simp [results, Try.results62, asAddr, go_sem]; rfl) rfl ?_
        exact ⟨rfl, hb1.out⟩
      · have HN := Lib.hid (HNx.out he)
        have HRe : Hid (∀ wx, Below w.heap.size w wx → Calls Try.prog 63 #[.agg #[.int .i64 qi, .int .i64 qo, .int .i64 qp, .int .i64 qa, .int .i64 qpl, .bool qb], .pointer (some ⟨k, 0, none⟩)] wx (Told wx (.bool false))) := Lib.hid fun wx hh => by
          have := HRr.out wx hh
          rwa [show (qi == id) = false by simpa using he] at this
        clear HRr HSt HNx he
        go_wp2_with (go_at_call 63; (with_reducible refine (HRe.out _ hb.out).mono ?_); rintro e w1 ⟨rfl, hh⟩; have hb1 := Lib.hid (below_next hb.out hh); clear hh)
        go_roundg (m + 1 - (i + 1))
        case measure => exact HM.out
        case rel => exact ⟨i + 1, rfl, by omega, by go_num, HN, hb1⟩
    · obtain rfl : m = i := by omega
      have e1 := HA.out hal.out
      have hR' := hR.out
      rw [if_neg e1] at hR'
      subst hR'
      clear e1
      go_wp2
      refine bodyPost_ret (by simp [results, Try.results62, asAddr, go_sem]; rfl) rfl ?_
      exact ⟨rfl, hb.out⟩
set_option maxHeartbeats 2000000 in
theorem at_raw (w : World) (g : Nat) (A : Option Addr) (L : List Ord) (c : Nat) (nx : Int) (hB : Blk w g 76 #[.slice A L.length c, .int .i64 nx]) (hR : ORow w A L) (hfew : L.length ≤ 64) (id : Int) : Calls Try.prog 43 #[.pointer (some ⟨g, 0, none⟩), .int .i64 id] w (Told w (.int .i64 (Bk.at_ L id))) := by
  have HB := Lib.hid hB
  have HR := Lib.hid hR
  have hmf : ∀ (fn : Fn) (first cap : Array Value) (w : World), (Instr.makeFunc fn first cap).run Try.prog w = .ok (.func fn first cap) w := fun _ _ _ _ => rfl
  have hb0 : Hid (Below w.heap.size w (w.alloc (.cells #[.int .i64 id] 3))) := Lib.hid ((Below.refl _ _).alloc (Nat.le_refl _) _)
  have B0 := Lib.hid (Blk.new w 3 #[.int .i64 id])
  have HI : Hid (∀ wx k, Below w.heap.size w wx → wx.cell? ⟨k, 0, none⟩ = some (.int .i64 id) → Calls Try.prog 62 #[.slice A L.length c, .func (.func 63) #[] #[.pointer (some ⟨k, 0, none⟩)]] wx (Told wx (.int .i64 (Bk.at_ L id)))) := Lib.hid fun wx k hb hc => indexid_calls wx A L c (HR.out.below hb) hfew id k hc
  generalize Bk.at_ L id = R at HI ⊢
  generalize L.length = n at HB HI
  clear hB hR hfew HR
  go_enter Try.func43, Try.ntmps43
  go_upto_region 1 with (fail)
  obtain ⟨k, hk⟩ : ∃ k, w.heap.size = k := ⟨_, rfl⟩
  have HK := Lib.hid hk
  rw [hk] at B0 ⊢
  clear hk
  generalize World.alloc w _ = wy at hb0 B0 ⊢
  have HIk := Lib.hid (HI.out wy k hb0.out (B0.out.cell 0))
  have c0 := (HB.out.below hb0.out HB.out.lt).cell 0
  simp at c0
  go_wp2_with (go_at_call 62; (with_reducible refine HIk.out.mono ?_); rintro e w1 ⟨rfl, hh⟩; have hb1 := Lib.hid (below_next hb0.out hh); clear hh)
  refine bodyPost_ret (by simp [results, Try.results43, asAddr, go_sem]; rfl) rfl ?_
  exact ⟨rfl, hb1.out⟩
theorem at_calls (w : World) (g : Nat) (gl : Option Nat) (b : Bk) (h : AtB w g gl b) (id : Int) : Calls Try.prog 43 #[.pointer (some ⟨g, 0, none⟩), .int .i64 id] w (Told w (.int .i64 (Bk.at_ b.l id))) := by
  obtain ⟨A, c, hB, hO⟩ := h.box
  exact at_raw w g A b.l c b.next hB (hO.orow rfl).2.2 h.ok.few id
end Go.Proofs.Ytilbhnloelgpdaa
namespace Go.Proofs.Ytilbhnloelgpdaa
open Go.RowKit
set_option linter.unusedVariables false
set_option linter.unusedSimpArgs false
theorem blk_six {w : World} {k : Nat} {t : TypeId} {a0 a1 a2 a3 a4 a5 : Value} (h : Blk w k t #[a0, a1, a2, a3, a4, a5]) (b0 b1 b2 b3 b4 b5 : Value) : Blk ((((((w.setCell ⟨k, 0, none⟩ b0).setCell ⟨k, 1, none⟩ b1).setCell ⟨k, 2, none⟩ b2).setCell ⟨k, 3, none⟩ b3).setCell ⟨k, 4, none⟩ b4).setCell ⟨k, 5, none⟩ b5) k t #[b0, b1, b2, b3, b4, b5] := by
  have h1 := (((((h.set_ 0 b0).set_ 1 b1).set_ 2 b2).set_ 3 b3).set_ 4 b4).set_ 5 b5
  simp only [List.setIfInBounds_toArray, List.set_cons_zero, List.set_cons_succ] at h1
  exact h1
/-- A new book. -/
def Newly (w : World) (e : Ending) (w' : World) : Prop := ∃ g, e = .returned (.pointer (some ⟨g, 0, none⟩)) ∧ AtB w' g none Bk.fresh ∧ w.heap.size ≤ g ∧ Below w.heap.size w w'
set_option maxHeartbeats 2000000 in
theorem new_calls (w : World) : Calls Try.prog 28 #[] w (Newly w) := by
  have hb0 : Hid (Below w.heap.size w (w.alloc (.cells #[.slice none 0 0, .int .i64 1] 76))) := Lib.hid ((Below.refl _ _).alloc (Nat.le_refl _) _)
  have B0 := Lib.hid (Blk.new w 76 #[.slice none 0 0, .int .i64 1])
  go_enter Try.func28, Try.ntmps28
  go_wp2
  refine bodyPost_ret (by simp [results, Try.results28, asAddr, go_sem]; rfl) rfl ?_
  exact ⟨w.heap.size, rfl, ⟨⟨none, 0, B0.out, Own.none_ _ _⟩, nofun, Bk.fresh_ok⟩, Nat.le_refl _, hb0.out⟩
set_option maxHeartbeats 2000000 in
theorem orders_calls (w : World) (g : Nat) (gl : Option Nat) (b : Bk) (h : AtB w g gl b) : Calls Try.prog 23 #[.pointer (some ⟨g, 0, none⟩)] w (Listed w b.l) := by
  obtain ⟨A, c, hB, hO⟩ := h.box
  have HB := Lib.hid hB
  have HC := Lib.hid (clone_calls w A b.l c (hO.orow rfl).2.2 h.ok.few)
  obtain ⟨n, hn⟩ : ∃ n, Hid (b.l.length = n) := ⟨_, Lib.hid rfl⟩
  rw [hn.out] at HC HB
  clear h hB hO
  go_enter Try.func23, Try.ntmps23
  have c0 := HB.out.cell 0
  simp at c0
  go_wp2_with (go_at_call 42; (with_reducible refine HC.out.mono ?_); rintro e w1 ⟨A1, c1, rfl, hz1, hb1⟩; have HZ := Lib.hid hz1; have HB1 := Lib.hid hb1; clear hz1 hb1)
  refine bodyPost_ret (by simp [results, Try.results23, asAddr, go_sem]; rfl) rfl ?_
  exact ⟨A1, c1, rfl, HZ.out, HB1.out⟩
theorem at_in {L : List Ord} {id : Int} (h : Bk.ix L id < L.length) : Bk.at_ L id = (Bk.ix L id : Int) := by unfold Bk.at_; rw [if_pos h]
theorem at_out {L : List Ord} {id : Int} (h : ¬ Bk.ix L id < L.length) : Bk.at_ L id = -1 := by unfold Bk.at_; rw [if_neg h]
set_option maxHeartbeats 4000000 in
theorem get_calls (w : World) (g : Nat) (gl : Option Nat) (b : Bk) (h : AtB w g gl b) (id : Int) : Calls Try.prog 26 #[.pointer (some ⟨g, 0, none⟩), .int .i64 id] w (Told w (.tuple #[oval (b.get id).1, .bool (b.get id).2])) := by
  have H := Lib.hid h
  have HAt := Lib.hid (fun wx (hb : Below w.heap.size w wx) => at_calls wx g gl b (h.below hb) id)
  have hb0 : Hid (Below w.heap.size w (w.alloc (.cells #[.int .i64 0, .int .i64 0, .int .i64 0, .int .i64 0, .int .i64 0, .bool false] 33))) := Lib.hid ((Below.refl _ _).alloc (Nat.le_refl _) _)
  have B0 := Lib.hid (Blk.new w 33 #[.int .i64 0, .int .i64 0, .int .i64 0, .int .i64 0, .int .i64 0, .bool false])
  by_cases hi : Bk.ix b.l id < b.l.length
  · have hg : b.get id = (b.l.getD (Bk.ix b.l id) ord0, true) := by unfold Bk.get; rw [if_pos hi]
    rw [hg]
    rw [at_in hi] at HAt
    obtain ⟨A, c, hB, hO⟩ := h.box
    have HB := Lib.hid hB
    have HOw := Lib.hid (hO.orow rfl).2.2
    obtain ⟨n, hn⟩ : ∃ n, Hid (b.l.length = n) := ⟨_, Lib.hid rfl⟩
    obtain ⟨i, hie⟩ : ∃ i, Hid (Bk.ix b.l id = i) := ⟨_, Lib.hid rfl⟩
    have hi2 := hi
    rw [hn.out, hie.out] at hi2
    rw [hie.out] at HAt ⊢
    have hL : Hid (i < b.l.length) := Lib.hid (by rw [hn.out]; exact hi2)
    obtain ⟨bb, o, rfl⟩ : ∃ bb o, A = some ⟨bb, o, none⟩ := by
      obtain ⟨bb, o, e, _⟩ := HOw.out.cells hL.out
      exact ⟨bb, o, e⟩
    have HC := Lib.hid (fun wx hh => ORow.six HOw.out hL.out (w' := wx) hh)
    rw [hn.out] at HB
    have i0 : (0 : Int) ≤ (i : Int) := by omega
    have hiI : (i : Int) < (n : Int) := by omega
    generalize b.l.getD i ord0 = q at HC ⊢
    obtain ⟨qi, qo, qp, qa, qpl, qb⟩ := q
    unfold oval
    simp only at HC ⊢
    clear h hB hO hi hg hi2
    go_enter Try.func26, Try.ntmps26
    go_upto_region 1 with (fail)
    obtain ⟨k, hk⟩ : ∃ k, w.heap.size = k := ⟨_, rfl⟩
    have HKk := Lib.hid hk
    rw [hk] at B0 ⊢
    clear hk
    generalize World.alloc w _ = wy at hb0 B0 ⊢
    go_upto_region 4 with (go_at_call 43; (with_reducible refine (HAt.out _ hb0.out).mono ?_); rintro e w1 ⟨rfl, hh⟩; have hb1 := Lib.hid hh; clear hh)
    have hbw := Lib.hid (below_next hb0.out hb1.out)
    have BK := Lib.hid (B0.out.below hb1.out B0.out.lt)
    have BG := Lib.hid (HB.out.below hbw.out HB.out.lt)
    have x0 := BG.out.cell 0
    simp at x0
    obtain ⟨c0, c1, c2, c3, c4, c5⟩ := HC.out w1 hbw.out
    have hbz : Hid (Below w.heap.size w ((((((w1.setCell ⟨k, 0, none⟩ (.int .i64 qi)).setCell ⟨k, 1, none⟩ (.int .i64 qo)).setCell ⟨k, 2, none⟩ (.int .i64 qp)).setCell ⟨k, 3, none⟩ (.int .i64 qa)).setCell ⟨k, 4, none⟩ (.int .i64 qpl)).setCell ⟨k, 5, none⟩ (.bool qb))) := Lib.hid (((((((hbw.out.setCell (p := ⟨k, _, none⟩) (Nat.le_of_eq HKk.out) _).setCell (p := ⟨k, _, none⟩) (Nat.le_of_eq HKk.out) _).setCell (p := ⟨k, _, none⟩) (Nat.le_of_eq HKk.out) _).setCell (p := ⟨k, _, none⟩) (Nat.le_of_eq HKk.out) _).setCell (p := ⟨k, _, none⟩) (Nat.le_of_eq HKk.out) _).setCell (p := ⟨k, _, none⟩) (Nat.le_of_eq HKk.out) _))
    obtain ⟨k0, k1, k2, k3, k4, k5⟩ : (w1.cell? ⟨k, 0, none⟩ = some (.int .i64 0) ∧ w1.cell? ⟨k, 1, none⟩ = some (.int .i64 0) ∧ w1.cell? ⟨k, 2, none⟩ = some (.int .i64 0) ∧ w1.cell? ⟨k, 3, none⟩ = some (.int .i64 0) ∧ w1.cell? ⟨k, 4, none⟩ = some (.int .i64 0) ∧ w1.cell? ⟨k, 5, none⟩ = some (.bool false)) := ⟨BK.out.cell 0, BK.out.cell 1, BK.out.cell 2, BK.out.cell 3, BK.out.cell 4, BK.out.cell 5⟩
    obtain ⟨f0, f1, f2, f3, f4, f5⟩ : (w1.frozen? ⟨k, 0, none⟩ = false ∧ w1.frozen? ⟨k, 1, none⟩ = false ∧ w1.frozen? ⟨k, 2, none⟩ = false ∧ w1.frozen? ⟨k, 3, none⟩ = false ∧ w1.frozen? ⟨k, 4, none⟩ = false ∧ w1.frozen? ⟨k, 5, none⟩ = false) := ⟨BK.out.frozen 0, BK.out.frozen 1, BK.out.frozen 2, BK.out.frozen 3, BK.out.frozen 4, BK.out.frozen 5⟩
    go_wp2
    (try simp only [Exit.inBlock, Exit.then])
    have BZ : Hid (Blk ((((((w1.setCell ⟨k, 0, none⟩ (.int .i64 qi)).setCell ⟨k, 1, none⟩ (.int .i64 qo)).setCell ⟨k, 2, none⟩ (.int .i64 qp)).setCell ⟨k, 3, none⟩ (.int .i64 qa)).setCell ⟨k, 4, none⟩ (.int .i64 qpl)).setCell ⟨k, 5, none⟩ (.bool qb)) k 33 #[.int .i64 qi, .int .i64 qo, .int .i64 qp, .int .i64 qa, .int .i64 qpl, .bool qb]) := Lib.hid (blk_six BK.out _ _ _ _ _ _)
    obtain ⟨wz, hwz⟩ : ∃ wz, ((((((w1.setCell ⟨k, 0, none⟩ (.int .i64 qi)).setCell ⟨k, 1, none⟩ (.int .i64 qo)).setCell ⟨k, 2, none⟩ (.int .i64 qp)).setCell ⟨k, 3, none⟩ (.int .i64 qa)).setCell ⟨k, 4, none⟩ (.int .i64 qpl)).setCell ⟨k, 5, none⟩ (.bool qb)) = wz := ⟨_, rfl⟩
    rw [hwz] at hbz BZ ⊢
    obtain ⟨z0, z1, z2, z3, z4, z5⟩ : (wz.cell? ⟨k, 0, none⟩ = some (.int .i64 qi) ∧ wz.cell? ⟨k, 1, none⟩ = some (.int .i64 qo) ∧ wz.cell? ⟨k, 2, none⟩ = some (.int .i64 qp) ∧ wz.cell? ⟨k, 3, none⟩ = some (.int .i64 qa) ∧ wz.cell? ⟨k, 4, none⟩ = some (.int .i64 qpl) ∧ wz.cell? ⟨k, 5, none⟩ = some (.bool qb)) := ⟨BZ.out.cell 0, BZ.out.cell 1, BZ.out.cell 2, BZ.out.cell 3, BZ.out.cell 4, BZ.out.cell 5⟩
    refine bodyPost_ret (by simp [results, Try.results26, asAddr, go_sem, z0, z1, z2, z3, z4, z5]; rfl) rfl ?_
    exact ⟨rfl, hbz.out⟩
  · have hg : b.get id = (ord0, false) := by unfold Bk.get; rw [if_neg hi]
    rw [hg]
    rw [at_out hi] at HAt
    clear h hi hg
    unfold oval ord0
    simp only
    go_enter Try.func26, Try.ntmps26
    go_upto_region 1 with (fail)
    obtain ⟨k, hk⟩ : ∃ k, w.heap.size = k := ⟨_, rfl⟩
    have HKk := Lib.hid hk
    rw [hk] at B0 ⊢
    clear hk
    generalize World.alloc w _ = wy at hb0 B0 ⊢
    go_upto_region 4 with (go_at_call 43; (with_reducible refine (HAt.out _ hb0.out).mono ?_); rintro e w1 ⟨rfl, hh⟩; have hb1 := Lib.hid hh; clear hh)
    have hbw := Lib.hid (below_next hb0.out hb1.out)
    have BK := Lib.hid (B0.out.below hb1.out B0.out.lt)
    have hbz : Hid (Below w.heap.size w ((((((w1.setCell ⟨k, 0, none⟩ (.int .i64 0)).setCell ⟨k, 1, none⟩ (.int .i64 0)).setCell ⟨k, 2, none⟩ (.int .i64 0)).setCell ⟨k, 3, none⟩ (.int .i64 0)).setCell ⟨k, 4, none⟩ (.int .i64 0)).setCell ⟨k, 5, none⟩ (.bool false))) := Lib.hid (((((((hbw.out.setCell (p := ⟨k, _, none⟩) (Nat.le_of_eq HKk.out) _).setCell (p := ⟨k, _, none⟩) (Nat.le_of_eq HKk.out) _).setCell (p := ⟨k, _, none⟩) (Nat.le_of_eq HKk.out) _).setCell (p := ⟨k, _, none⟩) (Nat.le_of_eq HKk.out) _).setCell (p := ⟨k, _, none⟩) (Nat.le_of_eq HKk.out) _).setCell (p := ⟨k, _, none⟩) (Nat.le_of_eq HKk.out) _))
    obtain ⟨k0, k1, k2, k3, k4, k5⟩ : (w1.cell? ⟨k, 0, none⟩ = some (.int .i64 0) ∧ w1.cell? ⟨k, 1, none⟩ = some (.int .i64 0) ∧ w1.cell? ⟨k, 2, none⟩ = some (.int .i64 0) ∧ w1.cell? ⟨k, 3, none⟩ = some (.int .i64 0) ∧ w1.cell? ⟨k, 4, none⟩ = some (.int .i64 0) ∧ w1.cell? ⟨k, 5, none⟩ = some (.bool false)) := ⟨BK.out.cell 0, BK.out.cell 1, BK.out.cell 2, BK.out.cell 3, BK.out.cell 4, BK.out.cell 5⟩
    obtain ⟨f0, f1, f2, f3, f4, f5⟩ : (w1.frozen? ⟨k, 0, none⟩ = false ∧ w1.frozen? ⟨k, 1, none⟩ = false ∧ w1.frozen? ⟨k, 2, none⟩ = false ∧ w1.frozen? ⟨k, 3, none⟩ = false ∧ w1.frozen? ⟨k, 4, none⟩ = false ∧ w1.frozen? ⟨k, 5, none⟩ = false) := ⟨BK.out.frozen 0, BK.out.frozen 1, BK.out.frozen 2, BK.out.frozen 3, BK.out.frozen 4, BK.out.frozen 5⟩
    go_wp2
    (try simp only [Exit.inBlock, Exit.then])
    have BZ : Hid (Blk ((((((w1.setCell ⟨k, 0, none⟩ (.int .i64 0)).setCell ⟨k, 1, none⟩ (.int .i64 0)).setCell ⟨k, 2, none⟩ (.int .i64 0)).setCell ⟨k, 3, none⟩ (.int .i64 0)).setCell ⟨k, 4, none⟩ (.int .i64 0)).setCell ⟨k, 5, none⟩ (.bool false)) k 33 #[.int .i64 0, .int .i64 0, .int .i64 0, .int .i64 0, .int .i64 0, .bool false]) := Lib.hid (blk_six BK.out _ _ _ _ _ _)
    obtain ⟨wz, hwz⟩ : ∃ wz, ((((((w1.setCell ⟨k, 0, none⟩ (.int .i64 0)).setCell ⟨k, 1, none⟩ (.int .i64 0)).setCell ⟨k, 2, none⟩ (.int .i64 0)).setCell ⟨k, 3, none⟩ (.int .i64 0)).setCell ⟨k, 4, none⟩ (.int .i64 0)).setCell ⟨k, 5, none⟩ (.bool false)) = wz := ⟨_, rfl⟩
    rw [hwz] at hbz BZ ⊢
    obtain ⟨z0, z1, z2, z3, z4, z5⟩ : (wz.cell? ⟨k, 0, none⟩ = some (.int .i64 0) ∧ wz.cell? ⟨k, 1, none⟩ = some (.int .i64 0) ∧ wz.cell? ⟨k, 2, none⟩ = some (.int .i64 0) ∧ wz.cell? ⟨k, 3, none⟩ = some (.int .i64 0) ∧ wz.cell? ⟨k, 4, none⟩ = some (.int .i64 0) ∧ wz.cell? ⟨k, 5, none⟩ = some (.bool false)) := ⟨BZ.out.cell 0, BZ.out.cell 1, BZ.out.cell 2, BZ.out.cell 3, BZ.out.cell 4, BZ.out.cell 5⟩
    refine bodyPost_ret (by simp [results, Try.results26, asAddr, go_sem, z0, z1, z2, z3, z4, z5]; rfl) rfl ?_
    exact ⟨rfl, hbz.out⟩
set_option maxHeartbeats 4000000 in
theorem mine_calls (w : World) (g : Nat) (gl : Option Nat) (b : Bk) (h : AtB w g gl b) (id owner : Int) : Calls Try.prog 46 #[.pointer (some ⟨g, 0, none⟩), .int .i64 id, .int .i64 owner] w (Told w (.tuple #[.int .i64 (b.mine id owner).1, .int .i64 (b.mine id owner).2])) := by
  have HAt := Lib.hid (fun wx (hb : Below w.heap.size w wx) => at_calls wx g gl b (h.below hb) id)
  by_cases hi : Bk.ix b.l id < b.l.length
  · rw [at_in hi] at HAt
    obtain ⟨A, c, hB, hO⟩ := h.box
    have HB := Lib.hid hB
    have HOw := Lib.hid (hO.orow rfl).2.2
    obtain ⟨n, hn⟩ : ∃ n, Hid (b.l.length = n) := ⟨_, Lib.hid rfl⟩
    have HE : Hid (b.mine id owner = if (b.l.getD (Bk.ix b.l id) ord0).owner = owner then ((Bk.ix b.l id : Int), 0) else (0, 80)) := Lib.hid (by unfold Bk.mine; rw [if_pos hi])
    obtain ⟨i, hie⟩ : ∃ i, Hid (Bk.ix b.l id = i) := ⟨_, Lib.hid rfl⟩
    have hi2 := hi
    rw [hn.out, hie.out] at hi2
    rw [hie.out] at HAt HE
    have hL : Hid (i < b.l.length) := Lib.hid (by rw [hn.out]; exact hi2)
    obtain ⟨bb, o, rfl⟩ : ∃ bb o, A = some ⟨bb, o, none⟩ := by
      obtain ⟨bb, o, e, _⟩ := HOw.out.cells hL.out
      exact ⟨bb, o, e⟩
    have HC := Lib.hid (fun wx hh => ORow.six HOw.out hL.out (w' := wx) hh)
    rw [hn.out] at HB
    have i0 : (0 : Int) ≤ (i : Int) := by omega
    have hiI : (i : Int) < (n : Int) := by omega
    generalize b.l.getD i ord0 = q at HC HE
    obtain ⟨qi, qo, qp, qa, qpl, qb⟩ := q
    simp only at HC HE
    clear h hB hO hi hi2
    by_cases ho : qo = owner
    · rw [HE.out, if_pos ho]
      subst ho
      have hne : (qo != qo) = false := by simp
      go_enter Try.func46, Try.ntmps46
      go_upto_region 4 with (go_at_call 43; (with_reducible refine (HAt.out _ (Below.refl _ _)).mono ?_); rintro e w1 ⟨rfl, hh⟩; have hb1 := Lib.hid hh; clear hh)
      have BG := Lib.hid (HB.out.below hb1.out HB.out.lt)
      have x0 := BG.out.cell 0
      simp at x0
      obtain ⟨c0, c1, c2, c3, c4, c5⟩ := HC.out w1 hb1.out
      go_wp2
      refine bodyPost_ret (by simp [results, Try.results46, asAddr, go_sem]; rfl) rfl ?_
      exact ⟨rfl, hb1.out⟩
    · rw [HE.out, if_neg ho]
      have hne : (qo != owner) = true := by simpa using ho
      go_enter Try.func46, Try.ntmps46
      go_upto_region 4 with (go_at_call 43; (with_reducible refine (HAt.out _ (Below.refl _ _)).mono ?_); rintro e w1 ⟨rfl, hh⟩; have hb1 := Lib.hid hh; clear hh)
      have BG := Lib.hid (HB.out.below hb1.out HB.out.lt)
      have x0 := BG.out.cell 0
      simp at x0
      obtain ⟨c0, c1, c2, c3, c4, c5⟩ := HC.out w1 hb1.out
      go_wp2
      refine bodyPost_ret (by simp [results, Try.results46, asAddr, go_sem]; rfl) rfl ?_
      exact ⟨rfl, hb1.out⟩
  · rw [at_out hi] at HAt
    have hm : b.mine id owner = (0, 3) := by unfold Bk.mine; rw [if_neg hi]
    rw [hm]
    clear h hi hm
    go_enter Try.func46, Try.ntmps46
    go_upto_region 4 with (go_at_call 43; (with_reducible refine (HAt.out _ (Below.refl _ _)).mono ?_); rintro e w1 ⟨rfl, hh⟩; have hb1 := Lib.hid hh; clear hh)
    go_wp2
    refine bodyPost_ret (by simp [results, Try.results46, asAddr, go_sem]; rfl) rfl ?_
    exact ⟨rfl, hb1.out⟩
end Go.Proofs.Ytilbhnloelgpdaa
namespace Go.Proofs.Ytilbhnloelgpdaa
open Go.RowKit
set_option linter.unusedVariables false
set_option linter.unusedSimpArgs false
theorem Own.over {w : World} {sz n c : Nat} {A : Option Addr} {bk : Option Nat} {xs : List Value} (h : Own w sz (.slice A n c) bk n xs) {p : Nat} {vs : List Value} (hp : p + vs.length ≤ n * sz) (hv : 0 < vs.length) :
    ∃ g off, bk = some g ∧ A = some ⟨g, off, none⟩ ∧ (∀ j, j < vs.length → (w.cell? ⟨g, off + p + j, none⟩).isSome = true ∧ w.frozen? ⟨g, off + p + j, none⟩ = false) ∧ Own (w.setCells g (off + p) vs) sz (.slice A n c) bk n (Go.Proofs.Ytilbhnloelgpdaa.over xs p vs) := by
  obtain ⟨h0, A', c', heq, h1, h2, h3⟩ := h
  cases heq
  have hnc : n * sz ≤ c * sz := Nat.mul_le_mul_right _ h1
  rcases h3 with ⟨_, h4⟩ | ⟨g, off, rfl, rfl, hg, h5, h6⟩
  · subst h4
    rw [Nat.zero_mul] at hnc
    omega
  · have hc : ∀ j, j < vs.length → (w.cell? ⟨g, off + p + j, none⟩).isSome = true ∧ w.frozen? ⟨g, off + p + j, none⟩ = false := fun j hj => by
      rw [Nat.add_assoc]; exact h5 (p + j) (by omega)
    have hk := World.keptBut_setCells g (may := fun _ => True) vs (off + p) w fun _ _ => trivial
    refine ⟨g, off, rfl, rfl, hc, ⟨by rw [over_length (by omega)]; exact h0, _, _, rfl, h1, h2, .inr ⟨g, off, rfl, rfl, Nat.lt_of_lt_of_le hg hk.size, fun i hi => ⟨World.isSome_setCells _ _ _ _ _ (h5 i hi).1, by rw [World.frozen?_setCells]; exact (h5 i hi).2⟩, fun i hi => ?_⟩⟩⟩
    by_cases hin : p ≤ i ∧ i < p + vs.length
    · have := World.cell?_setCells_in g vs (off + p) w (fun j hj => (hc j hj).1) (i - p) (by omega)
      rw [show off + p + (i - p) = off + i from by omega] at this
      have e := over_in (xs := xs) (vs := vs) (p := p) (j := i - p) (by omega) (by omega)
      rw [show p + (i - p) = i from by omega] at e
      rw [this, e, List.getElem?_eq_getElem (by omega)]
    · rw [World.cell?_setCells_out g vs (off + p) w ⟨g, off + i, none⟩ (fun _ _ => by show off + i < _ ∨ _ ≤ off + i; omega), over_out (by omega) (by omega)]
      exact h6 i hi
/-- Fewer in front. -/
theorem Own.front {w : World} {n c r b o : Nat} {bk : Option Nat} {xs : List Value} (h : Own w 6 (.slice (some ⟨b, o, none⟩) n c) bk n xs) (hr : r ≤ n) (hc : 0 < c) : Own w 6 (.slice (some ⟨b, o, none⟩) r c) bk r (xs.take (r * 6)) := by
  obtain ⟨h0, A', c', heq, h1, h2, h3⟩ := h
  cases heq
  refine ⟨by rw [List.length_take]; omega, _, _, rfl, by omega, h2, ?_⟩
  rcases h3 with ⟨_, h4⟩ | ⟨g, off, h4, heq, hg, h5, h6⟩
  · omega
  · refine .inr ⟨g, off, h4, heq, hg, h5, fun j hj => ?_⟩
    rw [h6 j (by omega), List.getElem?_take_of_lt hj]
theorem erase_cells (L : List Ord) {i : Nat} (hi : i < L.length) : (over (ocells L) (i * 6) (ocells (L.drop (i + 1)))).take ((L.length - 1) * 6) = ocells (L.eraseIdx i) := by
  have e1 : (ocells (L.take i)).length = i * 6 := by rw [ocells_length, List.length_take, Nat.min_eq_left (by omega)]
  have e2 : ocells L = ocells (L.take i) ++ ocells (L.drop i) := by rw [← ocells_append, List.take_append_drop]
  have e3 : (ocells (L.drop (i + 1))).length = (L.length - (i + 1)) * 6 := by rw [ocells_length, List.length_drop]
  rw [List.eraseIdx_eq_take_drop_succ, ocells_append]
  unfold over
  rw [e2, List.take_append_of_le_length (l₁ := ocells (L.take i)) (by omega), List.take_of_length_le (l := ocells (L.take i)) (by omega), List.append_assoc, ← List.append_assoc, List.take_append_of_le_length (by rw [List.length_append]; omega), List.take_of_length_le (by rw [List.length_append]; omega)]
theorem over_none (xs : List Value) (p : Nat) : over xs p [] = xs := by unfold over; simp
theorem over_take {xs vs : List Value} {p : Nat} (h : p ≤ xs.length) : (over xs p vs).take p = xs.take p := by
  unfold over
  rw [List.append_assoc, List.take_append_of_le_length (by rw [List.length_take]; omega), List.take_of_length_le (by rw [List.length_take]; omega)]
theorem Own.over0 {w : World} {sz n c b o : Nat} {xs : List Value} (h : Own w sz (.slice (some ⟨b, o, none⟩) n c) (some b) n xs) {p : Nat} {vs : List Value} (hp : p + vs.length ≤ n * sz) :
    Own (w.setCells b (o + p) vs) sz (.slice (some ⟨b, o, none⟩) n c) (some b) n (Go.Proofs.Ytilbhnloelgpdaa.over xs p vs) ∧ (∀ j, j < vs.length → (w.cell? ⟨b, o + p + j, none⟩).isSome = true ∧ w.frozen? ⟨b, o + p + j, none⟩ = false) := by
  by_cases hv : 0 < vs.length
  · obtain ⟨g, off, e1, e2, h1, h2⟩ := h.over hp hv
    cases e1
    cases e2
    exact ⟨h2, h1⟩
  · have : vs = [] := List.eq_nil_of_length_eq_zero (by omega)
    subst this
    rw [over_none]
    exact ⟨h, fun j hj => by simp at hj⟩
set_option maxHeartbeats 4000000 in
set_option maxRecDepth 100000 in
theorem delone_calls (w : World) (A : Option Addr) (L : List Ord) (c : Nat) (bk : Option Nat) (h : Own w 6 (.slice A L.length c) bk L.length (ocells L)) (hl : L.length ≤ 64) (i : Nat) (hi : i < L.length) :
    Calls Try.prog 48 #[.slice A L.length c, .int .i64 (i : Int), .int .i64 ((i : Int) + 1)] w fun e w' => e = .returned (.slice A (L.length - 1) c) ∧ Own w' 6 (.slice A (L.length - 1) c) bk (L.length - 1) (ocells (L.eraseIdx i)) ∧ Only (fun k => some k = bk) w w' := by
  obtain ⟨b, o, hbk, rfl, _, _⟩ := h.over (p := 0) (vs := ocell ord0) (by rw [ocell_length]; omega) (by decide)
  subst hbk
  have hcn := (h.orow rfl).1
  have hcm := (h.orow rfl).2.1
  have Ho := Lib.hid (h.orow rfl).2.2
  obtain ⟨i1, hi1, hy0, hy1, hy2⟩ := info_parts info_order
  have HI1 := Lib.hid hi1
  have HY1 := Lib.hid hy1
  obtain ⟨n, hn⟩ : ∃ n, Hid (L.length = n) := ⟨_, Lib.hid rfl⟩
  obtain ⟨n1, hn1⟩ : ∃ n1, Hid (n - 1 = n1) := ⟨_, Lib.hid rfl⟩
  have HE := Lib.hid (erase_cells L hi)
  have H := Lib.hid h
  rw [hn.out] at H hl hi hcn HE ⊢
  rw [hn1.out] at HE ⊢
  have i0 : (0 : Int) ≤ (i : Int) := by omega
  have i2 : (i : Int) ≤ (i : Int) + 1 := by omega
  have i3 : (i : Int) + 1 ≤ (n : Int) := by omega
  have i4 : (0 : Int) ≤ (i : Int) + 1 := by omega
  have i5 : (n : Int) ≤ (c : Int) := by omega
  have i6 : (i : Int) ≤ (c : Int) := by omega
  have i7 : (i : Int) + 1 ≤ (c : Int) := by omega
  have hne : ((i : Int) == (i : Int) + 1) = false := by rw [beq_eq_false_iff_ne]; omega
  have q1 : ((i : Int) + 1).toNat = i + 1 := by omega
  clear h hi1 hy0 hy1 hy2
  go_enter Try.func48, Try.ntmps48
  go_upto_region 5 with (fail)
  obtain ⟨Ad, hA, hnews⟩ : ∃ Ad : Addr, (if c = i + 1 then some (⟨b, o, none⟩ : Addr) else some ⟨b, o + (i + 1) * 6, none⟩) = some Ad ∧ Hid (∀ j u, (ocells (L.drop (i + 1)))[j]? = some u → w.drew.cell? (Ad.add j) = some u) := by
    have hgt : ∀ j u, (ocells (L.drop (i + 1)))[j]? = some u → w.drew.cell? ⟨b, o + (i + 1) * 6 + j, none⟩ = some u := fun j u hu => by
      have hj : j < (L.length - (i + 1)) * 6 := by
        have := (List.getElem?_eq_some_iff.1 hu).1
        rwa [ocells_length, List.length_drop] at this
      have e2 : ocells L = ocells (L.take (i + 1)) ++ ocells (L.drop (i + 1)) := by rw [← ocells_append, List.take_append_drop]
      have e3 : (ocells (L.take (i + 1))).length = (i + 1) * 6 := by rw [ocells_length, List.length_take, hn.out]; omega
      obtain ⟨_, _, _, heq, _, _, h3⟩ := H.out
      cases heq
      rcases h3 with ⟨h4, _⟩ | ⟨g, off, h4, heq, _, _, h6⟩
      · cases h4
      · cases heq
        have := h6 ((i + 1) * 6 + j) (by rw [hn.out] at hj; omega)
        rw [← Nat.add_assoc] at this
        show w.cell? _ = _
        rw [this, e2, List.getElem?_append_right (by omega), e3, Nat.add_sub_cancel_left]; exact hu
    by_cases hc : c = i + 1
    · refine ⟨⟨b, o, none⟩, by rw [if_pos hc], Lib.hid fun j u hu => ?_⟩
      have hj := (List.getElem?_eq_some_iff.1 hu).1
      rw [ocells_length, List.length_drop, hn.out] at hj
      omega
    · refine ⟨⟨b, o + (i + 1) * 6, none⟩, by rw [if_neg hc], Lib.hid fun j u hu => ?_⟩
      rw [show (⟨b, o + (i + 1) * 6, none⟩ : Addr).add j = ⟨b, o + (i + 1) * 6 + j, none⟩ from by simp [Addr.add_lit]]
      exact hgt j u hu
  have hnl : Hid ((ocells (L.drop (i + 1))).length = (n - (i + 1)) * 6) := Lib.hid (by rw [ocells_length, List.length_drop, hn.out])
  have hone : Hid (∀ u ∈ ocells (L.drop (i + 1)), u.oneCell' = true) := Lib.hid (ocells_one _)
  obtain ⟨hO1, hsp⟩ := (H.out.below (Below.refl _ _).drew).over0 (p := i * 6) (vs := ocells (L.drop (i + 1))) (by rw [hnl.out]; omega)
  have HO1 := Lib.hid hO1
  have HSP := Lib.hid hsp
  have hroom : i + (n - (i + 1)) ≤ c := by omega
  have q2 : i + (n - (i + 1)) = n1 := by have := hn1.out; omega
  have ho1 : Hid (Only (fun k => some k = some b) w (w.drew.setCells b (o + i * 6) (ocells (L.drop (i + 1))))) := Lib.hid ((Only.of_below (S := fun k => some k = some b) (Below.refl w.heap.size w).drew).trans ((only_setCells w.drew b (o + i * 6) (ocells (L.drop (i + 1)))).mono (S' := fun k => some k = some b) fun k hk => by rw [hk]) fun k hk => .inl hk)
  clear hO1 hsp
  go_region_law (refine step_append_room rfl (.tmp 22) (.tmp 25) 22 rfl 33 i1 6 Try.underlying22 HI1.out HY1.out b o i c (by simp [Act.eval, Act.put]) Ad (n - (i + 1)) (c - (i + 1)) (ocells (L.drop (i + 1))) (by simp [Act.eval, Act.put]) hnl.out hnews.out hone.out hroom HSP.out ?_)
  clear hA hnews
  generalize World.setCells _ _ _ _ = wz at HO1 ho1 ⊢
  have hn1n : n1 ≤ n ∧ n1 < c ∧ n - n1 = 1 := by have := hn1.out; omega
  obtain ⟨hO2, hsp2⟩ := HO1.out.over0 (p := n1 * 6) (vs := (Builtin.zeroCells #[.int .i64 0, .int .i64 0, .int .i64 0, .int .i64 0, .int .i64 0, .bool false] (n - n1)).toList) (by rw [zeroCells_length]; simp; omega)
  have HO2 := Lib.hid (hO2.front (r := n1) (by omega) (by omega))
  rw [over_take (by rw [over_length (by rw [hnl.out, ocells_length, hn.out]; omega), ocells_length, hn.out]; omega), HE.out] at HO2
  have hcl : ∀ cc, (Builtin.clear_ #[22] 0 #[.slice (some ⟨b, o + n1 * 6, none⟩) (n - n1) cc]).run Try.prog wz = .ok (.tuple #[]) (wz.setCells b (o + n1 * 6) (Builtin.zeroCells #[.int .i64 0, .int .i64 0, .int .i64 0, .int .i64 0, .int .i64 0, .bool false] (n - n1)).toList) := fun cc => by
    refine run_clear_rows wz _ _ 0 (.agg #[.int .i64 0, .int .i64 0, .int .i64 0, .int .i64 0, .int .i64 0, .bool false]) Try.underlying22 (fun wx => ?_) (by decide) b _ (n - n1) cc (by omega) fun k hk => hsp2 k (by rw [zeroCells_length]; exact hk)
    obtain ⟨i1, hi1, hy0, _, _⟩ := info_parts info_order
    simp [zeroValue]
    rfl
  have ho2 : Hid (Only (fun k => some k = some b) w (wz.setCells b (o + n1 * 6) (Builtin.zeroCells #[.int .i64 0, .int .i64 0, .int .i64 0, .int .i64 0, .int .i64 0, .bool false] (n - n1)).toList)) := Lib.hid (ho1.out.trans ((only_setCells _ _ _ _).mono (S' := fun k => some k = some b) fun k hk => by rw [hk]) fun k hk => .inl hk)
  generalize wz.setCells b _ _ = wy at hcl HO2 ho2
  have m1 : (n1 : Int) ≤ (n : Int) := by omega
  have m2 : (0 : Int) ≤ (n1 : Int) := by omega
  have m3 : (n1 : Int) < (c : Int) := by omega
  have m4 : ¬ c = n1 := by omega
  clear hO2 hsp2 hn1n q2 hroom i0 i2 i3 i4 i6 i7 q1 hne
  go_wp2
  refine bodyPost_ret (by simp [results, Try.results48, asAddr, go_sem]; rfl) rfl ?_
  exact ⟨rfl, HO2.out, ho2.out⟩
end Go.Proofs.Ytilbhnloelgpdaa
namespace Go.Proofs.Ytilbhnloelgpdaa
open Go.RowKit
set_option linter.unusedVariables false
set_option linter.unusedSimpArgs false
theorem step_append_own {P : Program} {ops : Array Oper} {o : Oper} {a : Act} {K : Act → World → Prop} {Q : Exit → Act → World → Prop} {E : Prop} {w : World} {sz n : Nat} {v : Value} {b : Option Nat} {xs : List Value} (hgd : o.guard = none) (s x : Operand) (t tx : TypeId)
    (ho : o.op = .call { callee := .builtin .append, args := #[s, x], argTypes := #[t, tx] })
    (e : TypeId) (i : TypeInfo) (z : Value) (bytes : Nat) (ht : P.underlying t = some (.slice e)) (hi : P.info? e = some i) (hz : i.zero = some z) (hsize : i.size = sz) (hby : i.bytes = bytes) (hzs : z.cells.size = sz) (hsz : 0 < sz)
    (hv : a.eval s = v) (h : Own w sz v b n xs) (xv : Value) (m : Nat) (news : List Value) (hx : a.eval x = xv) (hs : Src P sz tx xv m news w) (h63 : n + m ≤ maxLen) (hbytes : (n + m) * bytes ≤ 140737488355328)
    (hK : ∀ A c w' b', Own w' sz (.slice A (n + m) c) b' (n + m) (xs ++ news) → w.grownBy w' b → (b' = b ∨ b' = some w.heap.size) → K (a.put o.dst (.slice A (n + m) c)) w') :
    if Region.wanted o (yielded ops a.tmps) = true then Oper.wp P o a w K Q else E := by
  have hw : Region.wanted o (yielded ops a.tmps) = true := by simp [Region.wanted, hgd]
  rw [if_pos hw]
  obtain ⟨v', w', b', hrun, h3, h4, h5⟩ := run_append_own2 (P := P) h t tx o.type e i z bytes ht hi hz hsize hby hzs hsz xv m news hs h63 hbytes
  obtain ⟨hl, A, c, rfl, hrest⟩ := h3
  unfold Oper.wp execOp
  simp only [ho, resolve, invoke, builtin, Sem.run_bind, Sem.run_pure, Result.andThen_ok, List.map_toArray, List.map_cons, List.map_nil, hv, hx, hrun]
  exact hK _ _ _ _ ⟨hl, A, c, rfl, hrest⟩ h4 h5
/-- What a call does to a book: it is b' behind it; of what was there its two blocks alone have turned. -/
def Turns (w w' : World) (g : Nat) (gl : Option Nat) (b' : Bk) : Prop :=
  ∃ gl', AtB w' g gl' b' ∧ Only (fun k => k = g ∨ some k = gl) w w' ∧ (gl' = gl ∨ ∃ k, gl' = some k ∧ w.heap.size ≤ k)
theorem Turns.same {w w' : World} {g : Nat} {gl : Option Nat} {b : Bk} (h : AtB w g gl b) (hb : Below w.heap.size w w') : Turns w w' g gl b := ⟨gl, h.below hb, Only.of_below hb, .inl rfl⟩
theorem blk_two {w : World} {g : Nat} {t : TypeId} {a0 a1 : Value} (h : Blk w g t #[a0, a1]) (v : Value) : Blk (w.setCell ⟨g, 0, none⟩ v) g t #[v, a1] ∧ Blk (w.setCell ⟨g, 1, none⟩ v) g t #[a0, v] := by
  have h1 := h.set_ 0 v
  have h2 := h.set_ 1 v
  simp only [List.setIfInBounds_toArray, List.set_cons_zero, List.set_cons_succ] at h1 h2
  exact ⟨h1, h2⟩
theorem blk_place {w : World} {g : Nat} {t : TypeId} {a0 a1 a2 a3 a4 a5 : Value} (h : Blk w g t #[a0, a1, a2, a3, a4, a5]) (v : Value) : Blk (w.setCell ⟨g, 4, none⟩ v) g t #[a0, a1, a2, a3, v, a5] := by
  have h1 := h.set_ 4 v
  simp only [List.setIfInBounds_toArray, List.set_cons_zero, List.set_cons_succ] at h1
  exact h1
theorem Own.far {w : World} {sz n : Nat} {v : Value} {b : Option Nat} {xs : List Value} (h : Own w sz v b n xs) {g : Nat} (hg : b ≠ some g) (j : Nat) (u : Value) : Own (w.setCell ⟨g, j, none⟩ u) sz v b n xs :=
  h.carry (by simp) fun k hk => heap_setCell_other w ⟨g, j, none⟩ k u (by rintro rfl; exact hg hk)
/-- What an append to a book's list, and the store of it, make of the book. -/
theorem turns_append {w w3 wa w4 : World} {g n c c4 : Nat} {gl b4 : Option Nat} {A A4 : Option Addr} {L : List Ord} {nx : Int} {o2 : Ord} (hL : L.length = n) (hBG : Blk w3 g 76 #[.slice A n c, .int .i64 nx]) (hOn : Only (fun x => x = g ∨ some x = gl) w w3) (hwa : Below w3.heap.size w3 wa)
    (hown : Own w4 6 (.slice A4 (n + 1) c4) b4 (n + 1) (ocells L ++ ocell o2)) (hg : wa.grownBy w4 gl) (hbb : b4 = gl ∨ b4 = some wa.heap.size) (hgl : gl ≠ some g) (hlt : g < w.heap.size) (hok : (⟨L ++ [o2], nx⟩ : Bk).Ok) :
    Blk w4 g 76 #[.slice A n c, .int .i64 nx] ∧ Turns w (w4.setCell ⟨g, 0, none⟩ (.slice A4 (n + 1) c4)) g gl ⟨L ++ [o2], nx⟩ := by
  have hga : Blk wa g 76 #[.slice A n c, .int .i64 nx] := hBG.below hwa hBG.lt
  have hg4 : Blk w4 g 76 #[.slice A n c, .int .i64 nx] := by
    have e := hg.block g hga.lt fun e => hgl e.symm
    unfold Blk at hga ⊢
    rw [e]; exact hga
  have hb4 : b4 ≠ some g := by
    rcases hbb with e | e
    · rw [e]; exact hgl
    · rw [e]; intro e2
      have := hga.lt
      cases e2
      omega
  refine ⟨hg4, b4, ⟨⟨A4, c4, ?_, ?_⟩, hb4, hok⟩, ?_, ?_⟩
  · have := (blk_two hg4 (.slice A4 (n + 1) c4)).1
    show Blk _ g _ #[.slice A4 (L ++ [o2]).length c4, .int .i64 nx]
    rw [List.length_append, hL]; exact this
  · show Own _ 6 (.slice A4 (L ++ [o2]).length c4) b4 (L ++ [o2]).length (ocells (L ++ [o2]))
    rw [List.length_append, hL, ocells_append]
    exact hown.far hb4 _ _
  · exact ((hOn.then_below hwa).trans (Only.of_grown hg) fun x hx => .inl (.inr hx)).setCell (.inl (.inl rfl)) _
  · rcases hbb with e | e
    · exact .inl e
    · exact .inr ⟨_, e, Nat.le_trans hOn.size hwa.size⟩
set_option maxHeartbeats 8000000 in
set_option maxRecDepth 100000 in
theorem put_calls (w : World) (g : Nat) (gl : Option Nat) (b : Bk) (h : AtB w g gl b) (q : Ord) : Calls Try.prog 32 #[.pointer (some ⟨g, 0, none⟩), oval q] w fun e w' => e = .returned (.int .i64 (b.put q).2) ∧ Turns w w' g gl (b.put q).1 := by
  have H := Lib.hid h
  have HAt := Lib.hid (fun wx (hb : Below w.heap.size w wx) => at_calls wx g gl b (h.below hb) q.id)
  have HR := Lib.hid (fun wx => right_calls wx q)
  obtain ⟨E, hE⟩ : ∃ E, Hid (b.put q = E) := ⟨_, Lib.hid rfl⟩
  have hok := Lib.hid (Bk.put_ok h.ok q)
  have hE2 := hE.out
  unfold Bk.put at hE2
  rw [hE.out] at hok ⊢
  obtain ⟨qi, qo, qp, qa, qpl, qb⟩ := q
  unfold oval at HR ⊢
  simp only at HR HAt hE2 ⊢
  generalize Ord.right ⟨qi, qo, qp, qa, qpl, qb⟩ = r at HR hE2
  have hb0 : Hid (Below w.heap.size w (w.alloc (.cells #[.int .i64 qi, .int .i64 qo, .int .i64 qp, .int .i64 qa, .int .i64 qpl, .bool qb] 33))) := Lib.hid ((Below.refl _ _).alloc (Nat.le_refl _) _)
  have B0 := Lib.hid (Blk.new w 33 #[.int .i64 qi, .int .i64 qo, .int .i64 qp, .int .i64 qa, .int .i64 qpl, .bool qb])
  clear h
  cases r with
  | false =>
    have hE3 := Lib.hid hE2.symm
    rw [if_pos (by simp)] at hE3
    rw [hE3.out]
    clear hE2
    go_enter Try.func32, Try.ntmps32
    go_upto_region 1 with (fail)
    obtain ⟨k, hk⟩ : ∃ k, w.heap.size = k := ⟨_, rfl⟩
    have HKk := Lib.hid hk
    rw [hk] at B0 ⊢
    clear hk
    generalize World.alloc w _ = wy at hb0 B0 ⊢
    obtain ⟨c0, c1, c2, c3, c4, c5⟩ : (wy.cell? ⟨k, 0, none⟩ = some (.int .i64 qi) ∧ wy.cell? ⟨k, 1, none⟩ = some (.int .i64 qo) ∧ wy.cell? ⟨k, 2, none⟩ = some (.int .i64 qp) ∧ wy.cell? ⟨k, 3, none⟩ = some (.int .i64 qa) ∧ wy.cell? ⟨k, 4, none⟩ = some (.int .i64 qpl) ∧ wy.cell? ⟨k, 5, none⟩ = some (.bool qb)) := ⟨B0.out.cell 0, B0.out.cell 1, B0.out.cell 2, B0.out.cell 3, B0.out.cell 4, B0.out.cell 5⟩
    go_wp2_with (go_at_call 47; (with_reducible refine (HR.out _).mono ?_); rintro e w1 ⟨rfl, hh⟩; have hb1 := Lib.hid hh; clear hh)
    refine bodyPost_ret (by simp [results, Try.results32, asAddr, go_sem]; rfl) rfl ?_
    exact ⟨rfl, Turns.same H.out (below_next hb0.out hb1.out)⟩
  | true =>
    by_cases hpl : qpl = 0
    · have hplB : (qpl != 0) = false := by simpa using hpl
      rw [if_neg (by simp [hpl])] at hE2
      clear hpl
      by_cases hix : Bk.ix b.l qi < b.l.length
      · have hE3 := Lib.hid hE2.symm
        rw [if_pos hix] at hE3
        rw [hE3.out]
        rw [at_in hix] at HAt
        have hge : (0 : Int) ≤ (Bk.ix b.l qi : Int) := by omega
        clear hE2 hix
        go_enter Try.func32, Try.ntmps32
        go_upto_region 1 with (fail)
        obtain ⟨k, hk⟩ : ∃ k, w.heap.size = k := ⟨_, rfl⟩
        have HKk := Lib.hid hk
        rw [hk] at B0 ⊢
        clear hk
        generalize World.alloc w _ = wy at hb0 B0 ⊢
        obtain ⟨c0, c1, c2, c3, c4, c5⟩ : (wy.cell? ⟨k, 0, none⟩ = some (.int .i64 qi) ∧ wy.cell? ⟨k, 1, none⟩ = some (.int .i64 qo) ∧ wy.cell? ⟨k, 2, none⟩ = some (.int .i64 qp) ∧ wy.cell? ⟨k, 3, none⟩ = some (.int .i64 qa) ∧ wy.cell? ⟨k, 4, none⟩ = some (.int .i64 qpl) ∧ wy.cell? ⟨k, 5, none⟩ = some (.bool qb)) := ⟨B0.out.cell 0, B0.out.cell 1, B0.out.cell 2, B0.out.cell 3, B0.out.cell 4, B0.out.cell 5⟩
        go_upto_region 3 with (go_at_call 47; (with_reducible refine (HR.out _).mono ?_); rintro e w1 ⟨rfl, hh⟩; have hb1 := Lib.hid hh; clear hh; obtain ⟨c0, c1, c2, c3, c4, c5⟩ : (w1.cell? ⟨k, 0, none⟩ = some (.int .i64 qi) ∧ w1.cell? ⟨k, 1, none⟩ = some (.int .i64 qo) ∧ w1.cell? ⟨k, 2, none⟩ = some (.int .i64 qp) ∧ w1.cell? ⟨k, 3, none⟩ = some (.int .i64 qa) ∧ w1.cell? ⟨k, 4, none⟩ = some (.int .i64 qpl) ∧ w1.cell? ⟨k, 5, none⟩ = some (.bool qb)) := ⟨(B0.out.below hb1.out B0.out.lt).cell 0, (B0.out.below hb1.out B0.out.lt).cell 1, (B0.out.below hb1.out B0.out.lt).cell 2, (B0.out.below hb1.out B0.out.lt).cell 3, (B0.out.below hb1.out B0.out.lt).cell 4, (B0.out.below hb1.out B0.out.lt).cell 5⟩)
        have hbw1 := Lib.hid (below_next hb0.out hb1.out)
        go_wp2_with (go_at_call 43; (with_reducible refine (HAt.out _ hbw1.out).mono ?_); rintro e w2 ⟨rfl, hh⟩; have hbw2 := Lib.hid (below_next hbw1.out hh); clear hh)
        refine bodyPost_ret (by simp [results, Try.results32, asAddr, go_sem]; rfl) rfl ?_
        exact ⟨rfl, Turns.same H.out hbw2.out⟩
      · rw [if_neg hix] at hE2
        rw [at_out hix] at HAt
        obtain ⟨A, c, hB, hO⟩ := H.out.box
        have HB := Lib.hid hB
        have HO := Lib.hid hO
        have hfew := H.out.ok.few
        have hn0 := H.out.ok.next0
        have hn1 := H.out.ok.next1
        obtain ⟨n, hn⟩ : ∃ n, Hid (b.l.length = n) := ⟨_, Lib.hid rfl⟩
        obtain ⟨nx, hnx⟩ : ∃ nx, Hid (b.next = nx) := ⟨_, Lib.hid rfl⟩
        rw [hn.out] at HB HO hfew hE2
        rw [hnx.out] at HB hE2 hn0 hn1
        clear hB hO hix
        by_cases hfull : n = 64 ∨ 9007199254740992 ≤ nx
        · have hE3 := Lib.hid hE2.symm
          rw [if_pos hfull] at hE3
          rw [hE3.out]
          clear hE2
          by_cases hn64 : n = 64
          · have h64B : ((n : Int) == 64) = true := by rw [hn64]; rfl
            go_enter Try.func32, Try.ntmps32
            go_upto_region 1 with (fail)
            obtain ⟨k, hk⟩ : ∃ k, w.heap.size = k := ⟨_, rfl⟩
            have HKk := Lib.hid hk
            rw [hk] at B0 ⊢
            clear hk
            generalize World.alloc w _ = wy at hb0 B0 ⊢
            obtain ⟨c0, c1, c2, c3, c4, c5⟩ : (wy.cell? ⟨k, 0, none⟩ = some (.int .i64 qi) ∧ wy.cell? ⟨k, 1, none⟩ = some (.int .i64 qo) ∧ wy.cell? ⟨k, 2, none⟩ = some (.int .i64 qp) ∧ wy.cell? ⟨k, 3, none⟩ = some (.int .i64 qa) ∧ wy.cell? ⟨k, 4, none⟩ = some (.int .i64 qpl) ∧ wy.cell? ⟨k, 5, none⟩ = some (.bool qb)) := ⟨B0.out.cell 0, B0.out.cell 1, B0.out.cell 2, B0.out.cell 3, B0.out.cell 4, B0.out.cell 5⟩
            go_upto_region 3 with (go_at_call 47; (with_reducible refine (HR.out _).mono ?_); rintro e w1 ⟨rfl, hh⟩; have hb1 := Lib.hid hh; clear hh; obtain ⟨c0, c1, c2, c3, c4, c5⟩ : (w1.cell? ⟨k, 0, none⟩ = some (.int .i64 qi) ∧ w1.cell? ⟨k, 1, none⟩ = some (.int .i64 qo) ∧ w1.cell? ⟨k, 2, none⟩ = some (.int .i64 qp) ∧ w1.cell? ⟨k, 3, none⟩ = some (.int .i64 qa) ∧ w1.cell? ⟨k, 4, none⟩ = some (.int .i64 qpl) ∧ w1.cell? ⟨k, 5, none⟩ = some (.bool qb)) := ⟨(B0.out.below hb1.out B0.out.lt).cell 0, (B0.out.below hb1.out B0.out.lt).cell 1, (B0.out.below hb1.out B0.out.lt).cell 2, (B0.out.below hb1.out B0.out.lt).cell 3, (B0.out.below hb1.out B0.out.lt).cell 4, (B0.out.below hb1.out B0.out.lt).cell 5⟩)
            have hbw1 := Lib.hid (below_next hb0.out hb1.out)
            go_upto_region 5 with (go_at_call 43; (with_reducible refine (HAt.out _ hbw1.out).mono ?_); rintro e w2 ⟨rfl, hh⟩; have hbw2 := Lib.hid (below_next hbw1.out hh); clear hh)
            have BG := Lib.hid (HB.out.below hbw2.out HB.out.lt)
            have x0 := BG.out.cell 0
            have x1 := BG.out.cell 1
            simp at x0 x1
            go_wp2
            refine bodyPost_ret (by simp [results, Try.results32, asAddr, go_sem]; rfl) rfl ?_
            exact ⟨rfl, Turns.same H.out hbw2.out⟩
          · have h64B : ((n : Int) == 64) = false := by rw [beq_eq_false_iff_ne]; omega
            have hnxI : 9007199254740992 ≤ nx := by omega
            clear hfull
            go_enter Try.func32, Try.ntmps32
            go_upto_region 1 with (fail)
            obtain ⟨k, hk⟩ : ∃ k, w.heap.size = k := ⟨_, rfl⟩
            have HKk := Lib.hid hk
            rw [hk] at B0 ⊢
            clear hk
            generalize World.alloc w _ = wy at hb0 B0 ⊢
            obtain ⟨c0, c1, c2, c3, c4, c5⟩ : (wy.cell? ⟨k, 0, none⟩ = some (.int .i64 qi) ∧ wy.cell? ⟨k, 1, none⟩ = some (.int .i64 qo) ∧ wy.cell? ⟨k, 2, none⟩ = some (.int .i64 qp) ∧ wy.cell? ⟨k, 3, none⟩ = some (.int .i64 qa) ∧ wy.cell? ⟨k, 4, none⟩ = some (.int .i64 qpl) ∧ wy.cell? ⟨k, 5, none⟩ = some (.bool qb)) := ⟨B0.out.cell 0, B0.out.cell 1, B0.out.cell 2, B0.out.cell 3, B0.out.cell 4, B0.out.cell 5⟩
            go_upto_region 3 with (go_at_call 47; (with_reducible refine (HR.out _).mono ?_); rintro e w1 ⟨rfl, hh⟩; have hb1 := Lib.hid hh; clear hh; obtain ⟨c0, c1, c2, c3, c4, c5⟩ : (w1.cell? ⟨k, 0, none⟩ = some (.int .i64 qi) ∧ w1.cell? ⟨k, 1, none⟩ = some (.int .i64 qo) ∧ w1.cell? ⟨k, 2, none⟩ = some (.int .i64 qp) ∧ w1.cell? ⟨k, 3, none⟩ = some (.int .i64 qa) ∧ w1.cell? ⟨k, 4, none⟩ = some (.int .i64 qpl) ∧ w1.cell? ⟨k, 5, none⟩ = some (.bool qb)) := ⟨(B0.out.below hb1.out B0.out.lt).cell 0, (B0.out.below hb1.out B0.out.lt).cell 1, (B0.out.below hb1.out B0.out.lt).cell 2, (B0.out.below hb1.out B0.out.lt).cell 3, (B0.out.below hb1.out B0.out.lt).cell 4, (B0.out.below hb1.out B0.out.lt).cell 5⟩)
            have hbw1 := Lib.hid (below_next hb0.out hb1.out)
            go_upto_region 5 with (go_at_call 43; (with_reducible refine (HAt.out _ hbw1.out).mono ?_); rintro e w2 ⟨rfl, hh⟩; have hbw2 := Lib.hid (below_next hbw1.out hh); clear hh)
            have BG := Lib.hid (HB.out.below hbw2.out HB.out.lt)
            have x0 := BG.out.cell 0
            have x1 := BG.out.cell 1
            simp at x0 x1
            go_wp2
            refine bodyPost_ret (by simp [results, Try.results32, asAddr, go_sem]; rfl) rfl ?_
            exact ⟨rfl, Turns.same H.out hbw2.out⟩
        · have hE3 := Lib.hid hE2.symm
          rw [if_neg hfull] at hE3
          have h64B : ((n : Int) == 64) = false := by rw [beq_eq_false_iff_ne]; omega
          have hnxI : ¬ 9007199254740992 ≤ nx := by omega
          have qn : IntKind.i64.wrap (nx + 1) = nx + 1 := by rw [IntKind.wrap_i64]; omega
          rw [hE3.out] at hok
          rw [hE3.out]
          obtain ⟨i1, hi1, hy0, hy1, hy2⟩ := info_parts info_order
          have HI1 := Lib.hid hi1
          have HY0 := Lib.hid hy0
          have HY1 := Lib.hid hy1
          have HY2 := Lib.hid hy2
          have hA1 : Hid (n + 1 ≤ maxLen) := Lib.hid (by unfold maxLen; omega)
          have hA2 : Hid ((n + 1) * 48 ≤ 140737488355328) := Lib.hid (by omega)
          clear hE2 hfull hi1 hy0 hy1 hy2
          go_enter Try.func32, Try.ntmps32
          go_upto_region 1 with (fail)
          obtain ⟨k, hk⟩ : ∃ k, w.heap.size = k := ⟨_, rfl⟩
          have HKk := Lib.hid hk
          rw [hk] at B0 ⊢
          clear hk
          generalize World.alloc w _ = wy at hb0 B0 ⊢
          obtain ⟨c0, c1, c2, c3, c4, c5⟩ : (wy.cell? ⟨k, 0, none⟩ = some (.int .i64 qi) ∧ wy.cell? ⟨k, 1, none⟩ = some (.int .i64 qo) ∧ wy.cell? ⟨k, 2, none⟩ = some (.int .i64 qp) ∧ wy.cell? ⟨k, 3, none⟩ = some (.int .i64 qa) ∧ wy.cell? ⟨k, 4, none⟩ = some (.int .i64 qpl) ∧ wy.cell? ⟨k, 5, none⟩ = some (.bool qb)) := ⟨B0.out.cell 0, B0.out.cell 1, B0.out.cell 2, B0.out.cell 3, B0.out.cell 4, B0.out.cell 5⟩
          go_upto_region 3 with (go_at_call 47; (with_reducible refine (HR.out _).mono ?_); rintro e w1 ⟨rfl, hh⟩; have hb1 := Lib.hid hh; clear hh; obtain ⟨c0, c1, c2, c3, c4, c5⟩ : (w1.cell? ⟨k, 0, none⟩ = some (.int .i64 qi) ∧ w1.cell? ⟨k, 1, none⟩ = some (.int .i64 qo) ∧ w1.cell? ⟨k, 2, none⟩ = some (.int .i64 qp) ∧ w1.cell? ⟨k, 3, none⟩ = some (.int .i64 qa) ∧ w1.cell? ⟨k, 4, none⟩ = some (.int .i64 qpl) ∧ w1.cell? ⟨k, 5, none⟩ = some (.bool qb)) := ⟨(B0.out.below hb1.out B0.out.lt).cell 0, (B0.out.below hb1.out B0.out.lt).cell 1, (B0.out.below hb1.out B0.out.lt).cell 2, (B0.out.below hb1.out B0.out.lt).cell 3, (B0.out.below hb1.out B0.out.lt).cell 4, (B0.out.below hb1.out B0.out.lt).cell 5⟩)
          have hbw1 := Lib.hid (below_next hb0.out hb1.out)
          go_upto_region 5 with (go_at_call 43; (with_reducible refine (HAt.out _ hbw1.out).mono ?_); rintro e w2 ⟨rfl, hh⟩; have hb2 := Lib.hid hh; have hbw2 := Lib.hid (below_next hbw1.out hh); clear hh)
          clear c0 c1 c2 c3 c4 c5
          have hgk : Hid (g ≠ k ∧ gl ≠ some k ∧ gl ≠ some g ∧ g < w.heap.size ∧ w.heap.size ≤ k) := Lib.hid ⟨by have := H.out.lt; rw [HKk.out] at this; omega, fun e => by have := HO.out.lt e; rw [HKk.out] at this; omega, H.out.apart, H.out.lt, Nat.le_of_eq HKk.out⟩
          have BG := Lib.hid (HB.out.below hbw2.out HB.out.lt)
          have BK := Lib.hid ((B0.out.below hb1.out B0.out.lt).below hb2.out (Nat.lt_of_lt_of_le B0.out.lt hb1.out.size))
          have x0 := BG.out.cell 0
          have x1 := BG.out.cell 1
          simp at x0 x1
          have x2 := BG.out.frozen 1
          have y0 := BK.out.cell 4
          simp at y0
          have y1 := BK.out.frozen 4
          have hgk1 : g ≠ k := hgk.out.1
          have hgk2 : k ≠ g := fun e => hgk1 e.symm
          go_upto_region 9 with (fail)
          obtain ⟨w3, hw3⟩ : ∃ w3, (w2.setCell ⟨k, 4, none⟩ (.int .i64 nx)).setCell ⟨g, 1, none⟩ (.int .i64 (nx + 1)) = w3 := ⟨_, rfl⟩
          have HBK : Hid (Blk w3 k 33 #[.int .i64 qi, .int .i64 qo, .int .i64 qp, .int .i64 qa, .int .i64 nx, .bool qb]) := Lib.hid (by rw [← hw3]; exact (blk_place BK.out _).far hgk2 _)
          have HBG : Hid (Blk w3 g 76 #[.slice A n c, .int .i64 (nx + 1)]) := Lib.hid (by rw [← hw3]; exact (blk_two (BG.out.far hgk1 _) _).2)
          have HOw : Hid (Own w3 6 (.slice A n c) gl n (ocells b.l)) := Lib.hid (by rw [← hw3]; exact ((HO.out.below hbw2.out).far hgk.out.2.1 _ _).far hgk.out.2.2.1 _ _)
          have HOn : Hid (Only (fun x => x = g ∨ some x = gl) w w3) := Lib.hid (by rw [← hw3]; exact ((Only.of_below hbw2.out).setCell (.inr hgk.out.2.2.2.2) _).setCell (.inl (.inl rfl)) _)
          rw [hw3]
          clear hw3 x0 x1 x2 y0 y1 BG BK hb1 hb2 hbw1 hbw2 HB HO
          have hBX : Hid (∀ o, Below w3.heap.size w3 (w3.alloc o).drew) := Lib.hid fun o => ((Below.refl _ _).alloc (Nat.le_refl _) o).drew
          have xs0 : (w3.cell? ⟨g, 0, none⟩ = some (.slice A n c) ∧ w3.cell? ⟨k, 0, none⟩ = some (.int .i64 qi) ∧ w3.cell? ⟨k, 1, none⟩ = some (.int .i64 qo) ∧ w3.cell? ⟨k, 2, none⟩ = some (.int .i64 qp) ∧ w3.cell? ⟨k, 3, none⟩ = some (.int .i64 qa) ∧ w3.cell? ⟨k, 4, none⟩ = some (.int .i64 nx) ∧ w3.cell? ⟨k, 5, none⟩ = some (.bool qb)) := by
            have b1 := HBG.out
            have b2 := HBK.out
            exact ⟨b1.cell 0, b2.cell 0, b2.cell 1, b2.cell 2, b2.cell 3, b2.cell 4, b2.cell 5⟩
          have xs1 : (w3.alloc (.cells #[.int .i64 qi, .int .i64 qo, .int .i64 qp, .int .i64 qa, .int .i64 nx, .bool qb] 33)).cell? ⟨g, 0, none⟩ = some (.slice A n c) := (HBG.out.below ((Below.refl _ _).alloc (Nat.le_refl _) _) HBG.out.lt).cell 0
          obtain ⟨c0, c1, c2, c3, c4, c5, c6⟩ := xs0
          have HOa : Hid (∀ o, Own (w3.alloc o).drew 6 (.slice A n c) gl n (ocells b.l)) := Lib.hid fun o => HOw.out.below (hBX.out o)
          have hS1 : Hid (Src Try.prog 6 22 (.slice (some ⟨w3.heap.size, 0, none⟩) 1 1) 1 (ocell ⟨qi, qo, qp, qa, nx, qb⟩) (w3.alloc (.cells (ocell ⟨qi, qo, qp, qa, nx, qb⟩).toArray 33)).drew) := Lib.hid (src_new_drew Try.underlying22 w3 _ _ 1 1 rfl (by simp [ocell, Value.oneCell']))
          have HF := Lib.hid (fun (A4 : Option Addr) (c4 : Nat) (w4 : World) (b4 : Option Nat) (ob : Obj) (hown : Own w4 6 (.slice A4 (n + 1) c4) b4 (n + 1) (ocells b.l ++ ocell ⟨qi, qo, qp, qa, nx, qb⟩)) (hgr : (w3.alloc ob).drew.grownBy w4 gl) (hbb : b4 = gl ∨ b4 = some (w3.alloc ob).drew.heap.size) => turns_append (w := w) hn.out HBG.out HOn.out (hBX.out ob) hown hgr hbb hgk.out.2.2.1 hgk.out.2.2.2.1 hok.out)
          clear HBK HBG HOw
          go_region_law (refine step_append_own rfl (.tmp 54) (.tmp 56) 22 22 rfl 33 i1 (.agg #[.int .i64 0, .int .i64 0, .int .i64 0, .int .i64 0, .int .i64 0, .bool false]) 48 Try.underlying22 HI1.out HY0.out HY1.out HY2.out rfl (by decide) rfl (HOa.out _) _ 1 (ocell ⟨qi, qo, qp, qa, nx, qb⟩) rfl hS1.out hA1.out hA2.out ?_; intro A4 c4 w4 b4 hown hgr hbb; have hT := Lib.hid (HF.out A4 c4 w4 b4 _ hown hgr hbb); have z0 := hT.out.1.cell 0; simp at z0; have z1 := hT.out.1.frozen 0; clear hown hgr hbb)
          all_goals
            go_wp2
            refine bodyPost_ret (by simp [results, Try.results32, asAddr, go_sem]; rfl) rfl ?_
            exact ⟨rfl, hT.out.2⟩
    · have hplB : (qpl != 0) = true := by simpa using hpl
      have hE3 := Lib.hid hE2.symm
      rw [if_pos (by simp [hpl])] at hE3
      rw [hE3.out]
      clear hE2
      go_enter Try.func32, Try.ntmps32
      go_upto_region 1 with (fail)
      obtain ⟨k, hk⟩ : ∃ k, w.heap.size = k := ⟨_, rfl⟩
      have HKk := Lib.hid hk
      rw [hk] at B0 ⊢
      clear hk
      generalize World.alloc w _ = wy at hb0 B0 ⊢
      obtain ⟨c0, c1, c2, c3, c4, c5⟩ : (wy.cell? ⟨k, 0, none⟩ = some (.int .i64 qi) ∧ wy.cell? ⟨k, 1, none⟩ = some (.int .i64 qo) ∧ wy.cell? ⟨k, 2, none⟩ = some (.int .i64 qp) ∧ wy.cell? ⟨k, 3, none⟩ = some (.int .i64 qa) ∧ wy.cell? ⟨k, 4, none⟩ = some (.int .i64 qpl) ∧ wy.cell? ⟨k, 5, none⟩ = some (.bool qb)) := ⟨B0.out.cell 0, B0.out.cell 1, B0.out.cell 2, B0.out.cell 3, B0.out.cell 4, B0.out.cell 5⟩
      go_wp2_with (go_at_call 47; (with_reducible refine (HR.out _).mono ?_); rintro e w1 ⟨rfl, hh⟩; have hb1 := Lib.hid hh; clear hh; obtain ⟨c0, c1, c2, c3, c4, c5⟩ : (w1.cell? ⟨k, 0, none⟩ = some (.int .i64 qi) ∧ w1.cell? ⟨k, 1, none⟩ = some (.int .i64 qo) ∧ w1.cell? ⟨k, 2, none⟩ = some (.int .i64 qp) ∧ w1.cell? ⟨k, 3, none⟩ = some (.int .i64 qa) ∧ w1.cell? ⟨k, 4, none⟩ = some (.int .i64 qpl) ∧ w1.cell? ⟨k, 5, none⟩ = some (.bool qb)) := ⟨(B0.out.below hb1.out B0.out.lt).cell 0, (B0.out.below hb1.out B0.out.lt).cell 1, (B0.out.below hb1.out B0.out.lt).cell 2, (B0.out.below hb1.out B0.out.lt).cell 3, (B0.out.below hb1.out B0.out.lt).cell 4, (B0.out.below hb1.out B0.out.lt).cell 5⟩)
      refine bodyPost_ret (by simp [results, Try.results32, asAddr, go_sem]; rfl) rfl ?_
      exact ⟨rfl, Turns.same H.out (below_next hb0.out hb1.out)⟩
end Go.Proofs.Ytilbhnloelgpdaa
namespace Go.Proofs.Ytilbhnloelgpdaa
open Go.RowKit
set_option linter.unusedVariables false
set_option linter.unusedSimpArgs false
def Ord.live (o : Ord) : Bool := !(o.amount == 0)
theorem filter_live (o : Ord) : [o].filter Ord.live = if o.live = true then [o] else [] := by
  by_cases h : o.live = true <;> simp [h]
set_option maxHeartbeats 2000000 in
theorem dead_calls (w : World) (o : Ord) : Calls Try.prog 45 #[oval o] w (Told w (.bool (!o.live))) := by
  have e : (!o.live) = (o.amount == 0) := by unfold Ord.live; simp
  rw [e]
  obtain ⟨i, ow, p, a, pl, b⟩ := o
  unfold oval
  simp only
  have hb0 : Hid (Below w.heap.size w (w.alloc (.cells #[.int .i64 i, .int .i64 ow, .int .i64 p, .int .i64 a, .int .i64 pl, .bool b] 33))) := Lib.hid ((Below.refl _ _).alloc (Nat.le_refl _) _)
  have B0 := Lib.hid (Blk.new w 33 #[.int .i64 i, .int .i64 ow, .int .i64 p, .int .i64 a, .int .i64 pl, .bool b])
  go_enter Try.func45, Try.ntmps45
  go_upto_region 1 with (fail)
  obtain ⟨g, hg⟩ : ∃ g, w.heap.size = g := ⟨_, rfl⟩
  rw [hg] at B0 ⊢
  clear hg
  generalize World.alloc w _ = wy at hb0 B0 ⊢
  have c3 : wy.cell? ⟨g, 3, none⟩ = some (.int .i64 a) := B0.out.cell 3
  go_wp2
  refine bodyPost_ret (by simp [results, Try.results45, asAddr, go_sem]; rfl) rfl ?_
  exact ⟨rfl, hb0.out⟩
/-- So many orders in front are right. -/
def leadz (L : List Ord) : Nat := (L.takeWhile Ord.live).length
theorem leadz_le (L : List Ord) : leadz L ≤ L.length := (List.takeWhile_sublist _).length_le
theorem leadz_stop : ∀ (L : List Ord) (i : Nat), i < L.length → (∀ j, j < i → (L.getD j ord0).live = true) → (L.getD i ord0).live = false → leadz L = i
  | [], i, h, _, _ => by simp at h
  | o :: l, 0, _, _, h2 => by
    unfold leadz
    rw [List.takeWhile_cons_of_neg (by simpa using h2)]; rfl
  | o :: l, i + 1, h, h1, h2 => by
    have h0 : o.live = true := h1 0 (by omega)
    have := leadz_stop l i (by simpa using h) (fun j hj => h1 (j + 1) (by omega)) (by simpa using h2)
    unfold leadz at *
    rw [List.takeWhile_cons_of_pos h0, List.length_cons, this]
theorem leadz_all : ∀ (L : List Ord), (∀ j, j < L.length → (L.getD j ord0).live = true) → leadz L = L.length
  | [], _ => rfl
  | o :: l, h => by
    have h0 : o.live = true := h 0 (by simp)
    have := leadz_all l fun j hj => h (j + 1) (by simpa using hj)
    unfold leadz at *
    rw [List.takeWhile_cons_of_pos h0, List.length_cons, this, List.length_cons]
set_option maxHeartbeats 2000000 in
theorem indexz_calls (w : World) (A : Option Addr) (L : List Ord) (c : Nat) (h : ORow w A L) (hl : L.length ≤ 64) :
    Calls Try.prog 62 #[.slice A L.length c, .func (.func 45) #[] #[]] w (Told w (.int .i64 (if leadz L = L.length then -1 else (leadz L : Int)))) := by
  have H := Lib.hid h
  obtain ⟨m, hm⟩ : ∃ m, Hid (L.length = m) := ⟨_, Lib.hid rfl⟩
  have HR := Lib.hid (fun wx o => dead_calls wx o)
  have HS := Lib.hid (leadz_stop L)
  have HA := Lib.hid (leadz_all L)
  obtain ⟨d, hd⟩ : ∃ d, Hid (leadz L = d) := ⟨_, Lib.hid rfl⟩
  rw [hm.out] at hl HS HA ⊢
  rw [hd.out] at HS HA ⊢
  obtain ⟨R, hR⟩ : ∃ R, Hid ((if d = m then -1 else (d : Int)) = R) := ⟨_, Lib.hid rfl⟩
  rw [hR.out]
  clear h
  go_enter Try.func62, Try.ntmps62
  go_wp2
  go_loopg [5, 8] (m + 1) (fun gk s5 s8 wr => ∃ i : Nat, gk = m + 1 - i ∧ i ≤ m ∧ s8 = .int .i64 (i : Int) ∧ Hid (∀ j, j < i → (L.getD j ord0).live = true) ∧ Hid (Below w.heap.size w wr))
  case atStart => exact ⟨0, rfl, Nat.zero_le _, rfl, Lib.hid fun j hj => absurd hj (Nat.not_lt_zero _), Lib.hid (Below.refl _ _)⟩
  case round =>
    obtain ⟨i, rfl, hi, rfl, hal, hb⟩ := hrel
    have i0 : (0 : Int) ≤ (i : Int) := by omega
    by_cases hlt : i < m
    · have hltI : (i : Int) < (m : Int) := by omega
      have hlL : Hid (i < L.length) := Lib.hid (by rw [hm.out]; exact hlt)
      obtain ⟨b, o, rfl⟩ : ∃ b o, A = some ⟨b, o, none⟩ := by
        obtain ⟨b, o, e, _⟩ := H.out.cells hlL.out
        exact ⟨b, o, e⟩
      have HC := Lib.hid (fun wx hh => ORow.six H.out hlL.out (w' := wx) hh)
      have HRr := Lib.hid (fun wx => HR.out wx (L.getD i ord0))
      have HSt := Lib.hid (HS.out i hlt hal.out)
      have HNx : Hid ((L.getD i ord0).live = true → ∀ j, j < i + 1 → (L.getD j ord0).live = true) := Lib.hid fun hr j hj => by
        rcases Nat.lt_or_eq_of_le (Nat.le_of_lt_succ hj) with h | h
        · exact hal.out j h
        · rw [h]; exact hr
      have HM := Lib.hid (show m + 1 - (i + 1) < m + 1 - i by omega)
      generalize L.getD i ord0 = q at HC HRr HSt HNx
      obtain ⟨qi, qo, qp, qa, qpl, qb⟩ := q
      unfold oval at HRr
      simp only at HC HRr
      generalize Ord.live ⟨qi, qo, qp, qa, qpl, qb⟩ = r at HRr HSt HNx
      obtain ⟨c0, c1, c2, c3, c4, c5⟩ := HC.out wr hb.out
      cases r with
      | false =>
        have e1 := HSt.out rfl
        subst e1
        have hne : d ≠ m := by omega
        have hR' := hR.out
        rw [if_neg hne] at hR'
        subst hR'
        go_wp2_with (go_at_call 45; (with_reducible refine (HRr.out _).mono ?_); rintro e w1 ⟨rfl, hh⟩; have hb1 := Lib.hid (below_next hb.out hh); clear hh)
        refine bodyPost_ret (by simp [results, Try.results62, asAddr, go_sem]; rfl) rfl ?_
        exact ⟨rfl, hb1.out⟩
      | true =>
        have hn := HNx.out rfl
        have HN := Lib.hid hn
        clear hn
        go_wp2_with (go_at_call 45; (with_reducible refine (HRr.out _).mono ?_); rintro e w1 ⟨rfl, hh⟩; have hb1 := Lib.hid (below_next hb.out hh); clear hh)
        go_roundg (m + 1 - (i + 1))
        case measure => exact HM.out
        case rel => exact ⟨i + 1, rfl, by omega, by go_num, HN, hb1⟩
    · obtain rfl : m = i := by omega
      have e1 := HA.out hal.out
      subst e1
      have hR' := hR.out
      rw [if_pos rfl] at hR'
      subst hR'
      go_wp2
      refine bodyPost_ret (by simp [results, Try.results62, asAddr, go_sem]; rfl) rfl ?_
      exact ⟨rfl, hb.out⟩
theorem mem_twz : ∀ {L : List Ord} {o : Ord}, o ∈ L.takeWhile Ord.live → o.live = true
  | [], o, h => by simp at h
  | q :: l, o, h => by
    by_cases hq : q.live = true
    · rw [List.takeWhile_cons_of_pos hq, List.mem_cons] at h
      rcases h with h | h
      · rw [h]; exact hq
      · exact mem_twz h
    · rw [List.takeWhile_cons_of_neg hq] at h; simp at h
structure DInz (L F : List Ord) (i j : Nat) : Prop where
  len : F.length = L.length
  front : F.take i = (L.take j).filter Ord.live
  back : F.drop j = L.drop j
  lt : i < j
theorem leadz_front : ∀ (L : List Ord) (j : Nat), j < leadz L → (L.getD j ord0).live = true
  | [], j, h => by simp [leadz] at h
  | o :: l, j, h => by
    unfold leadz at h
    by_cases ho : o.live = true
    · rw [List.takeWhile_cons_of_pos ho, List.length_cons] at h
      cases j with
      | zero => exact ho
      | succ j => exact leadz_front l j (by unfold leadz; omega)
    · rw [List.takeWhile_cons_of_neg ho] at h; simp at h
theorem take_leadz (L : List Ord) : L.take (leadz L) = L.takeWhile Ord.live := by
  induction L with
  | nil => rfl
  | cons o l ih =>
    unfold leadz at *
    by_cases ho : o.live = true
    · rw [List.takeWhile_cons_of_pos ho, List.length_cons, List.take_succ_cons, ih]
    · rw [List.takeWhile_cons_of_neg ho]; rfl
theorem leadz_wrong : ∀ (L : List Ord), leadz L < L.length → (L.getD (leadz L) ord0).live = false
  | [], h => by simp [leadz] at h
  | o :: l, h => by
    by_cases ho : o.live = true
    · have e : leadz (o :: l) = leadz l + 1 := by unfold leadz; rw [List.takeWhile_cons_of_pos ho, List.length_cons]
      rw [e] at h ⊢
      exact leadz_wrong l (by simpa using h)
    · have e : leadz (o :: l) = 0 := by unfold leadz; rw [List.takeWhile_cons_of_neg ho]; rfl
      rw [e]; simpa using ho
theorem filter_wholez {L : List Ord} (h : leadz L = L.length) : L.filter Ord.live = L := by
  have h1 := take_leadz L
  rw [h, List.take_length] at h1
  rw [List.filter_eq_self]
  intro o ho
  rw [h1] at ho
  exact mem_twz ho
theorem DInz.start {L : List Ord} (h : leadz L < L.length) : DInz L L (leadz L) (leadz L + 1) := by
  refine ⟨rfl, ?_, rfl, Nat.lt_succ_self _⟩
  rw [Ca.take_at L h, List.filter_append, filter_live, leadz_wrong L h, if_neg (by simp), List.append_nil, take_leadz]
  exact (List.filter_eq_self.2 fun o ho => mem_twz ho).symm
theorem DInz.at_ {L F : List Ord} {i j : Nat} (h : DInz L F i j) (hj : j < L.length) : F.getD j ord0 = L.getD j ord0 := by
  have e := congrArg (fun l => l.getD 0 ord0) h.back
  simpa [List.getD_eq_getElem?_getD, List.getElem?_drop] using e
theorem DInz.wrong {L F : List Ord} {i j : Nat} (h : DInz L F i j) (hj : j < L.length) (hr : (L.getD j ord0).live = false) : DInz L F i (j + 1) := by
  refine ⟨h.len, ?_, ?_, Nat.lt_succ_of_lt h.lt⟩
  · rw [Ca.take_at L hj, List.filter_append, filter_live, hr, if_neg (by simp), List.append_nil]; exact h.front
  · have e := congrArg (List.drop 1) h.back
    simpa [List.drop_drop] using e
theorem DInz.next {L F : List Ord} {i j : Nat} (h : DInz L F i j) (hj : j < L.length) (hr : (L.getD j ord0).live = true) : DInz L (F.set i (L.getD j ord0)) (i + 1) (j + 1) := by
  have hl := h.len
  have hle := h.lt
  refine ⟨by rw [List.length_set]; exact hl, ?_, ?_, Nat.succ_lt_succ hle⟩
  · rw [Ca.take_at L hj, List.filter_append, filter_live, if_pos hr, ← h.front]
    have hi : i < (F.set i (L.getD j ord0)).length := by rw [List.length_set]; omega
    rw [List.take_succ_eq_append_getElem hi, List.getElem_set_self, List.take_set_of_le (Nat.le_refl _)]
  · have e := congrArg (List.drop 1) h.back
    rw [List.drop_set_of_lt (by omega)]
    simpa [List.drop_drop] using e
theorem DInz.done {L F : List Ord} {i : Nat} (h : DInz L F i L.length) : F.take i = L.filter Ord.live ∧ (L.filter Ord.live).length = i := by
  have h1 := h.front
  rw [List.take_length] at h1
  refine ⟨h1, ?_⟩
  rw [← h1, List.length_take, h.len]
  have := h.lt
  omega
/-- The list R is left, in the row's own block. -/
def LeftO (w0 : World) (bk : Option Nat) (R : List Ord) (e : Ending) (w' : World) : Prop := ∃ A c, e = .returned (.slice A R.length c) ∧ Own w' 6 (.slice A R.length c) bk R.length (ocells R) ∧ Only (fun k => some k = bk) w0 w'
set_option maxHeartbeats 4000000 in
set_option maxRecDepth 100000 in
theorem deletez_calls (w : World) (A : Option Addr) (L : List Ord) (c : Nat) (bk : Option Nat) (h : Own w 6 (.slice A L.length c) bk L.length (ocells L)) (hl : L.length ≤ 64) :
    Calls Try.prog 44 #[.slice A L.length c, .func (.func 45) #[] #[]] w (LeftO w bk (L.filter Ord.live)) := by
  have H := Lib.hid h
  obtain ⟨m, hm⟩ : ∃ m, Hid (L.length = m) := ⟨_, Lib.hid rfl⟩
  have HI : Hid (∀ wx, Below w.heap.size w wx → Calls Try.prog 62 #[.slice A m c, .func (.func 45) #[] #[]] wx (Told wx (.int .i64 (if leadz L = m then -1 else (leadz L : Int))))) := Lib.hid fun wx hx => by
    have := indexz_calls wx A L c ((h.orow rfl).2.2.below hx) hl
    rwa [hm.out] at this
  obtain ⟨d, hd⟩ : ∃ d, Hid (leadz L = d) := ⟨_, Lib.hid rfl⟩
  rw [hd.out] at HI
  rw [hm.out] at hl ⊢
  have HdL := Lib.hid (leadz_le L)
  rw [hd.out, hm.out] at HdL
  have hdl := HdL.out
  clear h
  by_cases hdm : d = m
  · have HI2 : Hid (∀ wx, Below w.heap.size w wx → Calls Try.prog 62 #[.slice A m c, .func (.func 45) #[] #[]] wx (Told wx (.int .i64 (-1)))) := Lib.hid fun wx hx => by
      have := HI.out wx hx
      rwa [if_pos hdm] at this
    have hf : Hid (L.filter Ord.live = L) := Lib.hid (filter_wholez (by rw [hd.out, hm.out]; exact hdm))
    rw [hf.out]
    clear HI
    go_enter Try.func44, Try.ntmps44
    go_wp2_with (go_at_call 62; (with_reducible refine (HI2.out _ (Below.refl _ _)).mono ?_); rintro e w1 ⟨rfl, hh⟩; have hb1 := Lib.hid hh; clear hh)
    refine bodyPost_ret (by simp [results, Try.results44, asAddr, go_sem]; rfl) rfl ?_
    have hz := H.out.below hb1.out
    exact ⟨A, c, by rw [hm.out], hz, Only.of_below hb1.out⟩
  have HI2 : Hid (∀ wx, Below w.heap.size w wx → Calls Try.prog 62 #[.slice A m c, .func (.func 45) #[] #[]] wx (Told wx (.int .i64 (d : Int)))) := Lib.hid fun wx hx => by
    have := HI.out wx hx
    rwa [if_neg hdm] at this
  have hd1 : d + 1 ≤ m := by omega
  have HSt : Hid (DInz L L d (d + 1)) := Lib.hid (by
    have := DInz.start (L := L) (by rw [hd.out, hm.out]; omega)
    rwa [hd.out] at this)
  have hdB : ((d : Int) == -1) = false := by
    rw [beq_eq_false_iff_ne]; omega
  have d0 : (0 : Int) ≤ (d : Int) := by omega
  have q0 : IntKind.i64.wrap ((d : Int) + 1) = (d : Int) + 1 := by rw [IntKind.wrap_i64]; omega
  have HR := Lib.hid (fun wx o => dead_calls wx o)
  clear HI
  go_enter Try.func44, Try.ntmps44
  go_upto_region 5 with (go_at_call 62; (with_reducible refine (HI2.out _ (Below.refl _ _)).mono ?_); rintro e w1 ⟨rfl, hh⟩; have hb1 := Lib.hid hh; clear hh)
  go_loopg [5, 6] (m + 1 - (d + 1)) (fun gk s5 s6 wr => ∃ (i j : Nat) (F : List Ord), gk = m + 1 - j ∧ j ≤ m ∧ s5 = .int .i64 (i : Int) ∧ s6 = .int .i64 (j : Int) ∧ Hid (DInz L F i j) ∧ Hid (Own wr 6 (.slice A m c) bk m (ocells F)) ∧ Hid (Only (fun k => some k = bk) w wr))
  case atStart => exact ⟨d, d + 1, L, rfl, hd1, rfl, by go_num, HSt, Lib.hid (by have := H.out.below hb1.out; rwa [hm.out] at this), Lib.hid (Only.of_below hb1.out)⟩
  case round =>
    obtain ⟨i, j, F, rfl, hj, rfl, rfl, hI, hF, hb⟩ := hrel
    have i0 : (0 : Int) ≤ (i : Int) := by omega
    have j0 : (0 : Int) ≤ (j : Int) := by omega
    have hij := hI.out.lt
    have hFl : Hid (F.length = m) := Lib.hid (by rw [hI.out.len, hm.out])
    by_cases hlt : j < m
    · have hltI : (j : Int) < (m : Int) := by omega
      have him : (i : Int) < (m : Int) := by omega
      have hOF : Hid (ORow wr A F) := Lib.hid (hF.out.orow hFl.out).2.2
      have hlF : Hid (j < F.length) := Lib.hid (by rw [hFl.out]; exact hlt)
      have hlL : Hid (j < L.length) := Lib.hid (by rw [hm.out]; exact hlt)
      obtain ⟨b, o, rfl⟩ : ∃ b o, A = some ⟨b, o, none⟩ := by
        obtain ⟨b, o, e, _⟩ := hOF.out.cells hlF.out
        exact ⟨b, o, e⟩
      have HC := Lib.hid (fun wx hh => ORow.six hOF.out hlF.out (w' := wx) hh)
      have HRr := Lib.hid (fun wx => HR.out wx (L.getD j ord0))
      have hBad := Lib.hid (hI.out.wrong hlL.out)
      have hNx := Lib.hid (hI.out.next hlL.out)
      have HM := Lib.hid (show m + 1 - (j + 1) < m + 1 - j by omega)
      rw [hI.out.at_ hlL.out] at HC
      generalize L.getD j ord0 = q at HC hBad hNx HRr
      obtain ⟨qi, qo, qp, qa, qpl, qb⟩ := q
      unfold oval at HRr
      simp only at HC HRr
      have hRq := Lib.hid (rfl : Ord.live ⟨qi, qo, qp, qa, qpl, qb⟩ = Ord.live ⟨qi, qo, qp, qa, qpl, qb⟩)
      obtain ⟨c0, c1, c2, c3, c4, c5⟩ := HC.out wr (Below.refl _ _)
      generalize Ord.live ⟨qi, qo, qp, qa, qpl, qb⟩ = r at hBad hNx HRr hRq
      cases r with
      | false =>
        have e1 := Lib.hid (hBad.out rfl)
        clear hNx hBad
        go_upto_region 8 with (fail)
        have hbA : Hid (Below wr.heap.size wr (wr.alloc (.cells #[.int .i64 qi, .int .i64 qo, .int .i64 qp, .int .i64 qa, .int .i64 qpl, .bool qb] 33))) := Lib.hid ((Below.refl _ _).alloc (Nat.le_refl _) _)
        have BA := Lib.hid (Blk.new wr 33 #[.int .i64 qi, .int .i64 qo, .int .i64 qp, .int .i64 qa, .int .i64 qpl, .bool qb])
        obtain ⟨g, hg⟩ : ∃ g, Hid (wr.heap.size = g) := ⟨_, Lib.hid rfl⟩
        rw [hg.out] at BA ⊢
        generalize World.alloc wr _ = wy at hbA BA ⊢
        clear c0 c1 c2 c3 c4 c5
        have HX : Hid (∀ wx, Below wy.heap.size wy wx → (wx.cell? ⟨g, 0, none⟩ = some (.int .i64 qi) ∧ wx.cell? ⟨g, 1, none⟩ = some (.int .i64 qo) ∧ wx.cell? ⟨g, 2, none⟩ = some (.int .i64 qp) ∧ wx.cell? ⟨g, 3, none⟩ = some (.int .i64 qa) ∧ wx.cell? ⟨g, 4, none⟩ = some (.int .i64 qpl) ∧ wx.cell? ⟨g, 5, none⟩ = some (.bool qb))) := Lib.hid fun wx hh => by
          have b0 := BA.out.below hh BA.out.lt
          exact ⟨b0.cell 0, b0.cell 1, b0.cell 2, b0.cell 3, b0.cell 4, b0.cell 5⟩
        have hF2 : Hid (Own wy 6 (.slice (some ⟨b, o, none⟩) m c) bk m (ocells F)) := Lib.hid (hF.out.below hbA.out)
        have hbb : Hid (Only (fun k => some k = bk) w wy) := Lib.hid (hb.out.then_below hbA.out)
        obtain ⟨c0, c1, c2, c3, c4, c5⟩ := HX.out wy (Below.refl _ _)
        go_wp2_with (go_at_call 45; (with_reducible refine (HRr.out _).mono ?_); rintro e w2 ⟨rfl, hh⟩; have hb2 := Lib.hid hh; clear hh)
        go_roundg (m + 1 - (j + 1))
        case measure => exact HM.out
        case rel => exact ⟨i, j + 1, F, rfl, by omega, rfl, by go_num, e1, Lib.hid (hF2.out.below hb2.out), Lib.hid (hbb.out.then_below hb2.out)⟩
      | true =>
        have e1 := Lib.hid (hNx.out rfl)
        clear hNx hBad
        go_upto_region 8 with (fail)
        have hbA : Hid (Below wr.heap.size wr (wr.alloc (.cells #[.int .i64 qi, .int .i64 qo, .int .i64 qp, .int .i64 qa, .int .i64 qpl, .bool qb] 33))) := Lib.hid ((Below.refl _ _).alloc (Nat.le_refl _) _)
        have BA := Lib.hid (Blk.new wr 33 #[.int .i64 qi, .int .i64 qo, .int .i64 qp, .int .i64 qa, .int .i64 qpl, .bool qb])
        obtain ⟨g, hg⟩ : ∃ g, Hid (wr.heap.size = g) := ⟨_, Lib.hid rfl⟩
        rw [hg.out] at BA ⊢
        generalize World.alloc wr _ = wy at hbA BA ⊢
        clear c0 c1 c2 c3 c4 c5
        have HX : Hid (∀ wx, Below wy.heap.size wy wx → (wx.cell? ⟨g, 0, none⟩ = some (.int .i64 qi) ∧ wx.cell? ⟨g, 1, none⟩ = some (.int .i64 qo) ∧ wx.cell? ⟨g, 2, none⟩ = some (.int .i64 qp) ∧ wx.cell? ⟨g, 3, none⟩ = some (.int .i64 qa) ∧ wx.cell? ⟨g, 4, none⟩ = some (.int .i64 qpl) ∧ wx.cell? ⟨g, 5, none⟩ = some (.bool qb))) := Lib.hid fun wx hh => by
          have b0 := BA.out.below hh BA.out.lt
          exact ⟨b0.cell 0, b0.cell 1, b0.cell 2, b0.cell 3, b0.cell 4, b0.cell 5⟩
        have hF2 : Hid (Own wy 6 (.slice (some ⟨b, o, none⟩) m c) bk m (ocells F)) := Lib.hid (hF.out.below hbA.out)
        have hbb : Hid (Only (fun k => some k = bk) w wy) := Lib.hid (hb.out.then_below hbA.out)
        obtain ⟨c0, c1, c2, c3, c4, c5⟩ := HX.out wy (Below.refl _ _)
        go_upto_region 9 with (go_at_call 45; (with_reducible refine (HRr.out _).mono ?_); rintro e w2 ⟨rfl, hh⟩; have hb2 := Lib.hid hh; clear hh)
        clear c0 c1 c2 c3 c4 c5
        obtain ⟨c0, c1, c2, c3, c4, c5⟩ := HX.out w2 hb2.out
        have hF3 : Hid (Own w2 6 (.slice (some ⟨b, o, none⟩) m c) bk m (ocells F)) := Lib.hid (hF2.out.below hb2.out)
        have hbc : Hid (Only (fun k => some k = bk) w w2) := Lib.hid (hbb.out.then_below hb2.out)
        obtain ⟨g', off', hg', he, hce, hMi⟩ := hF3.out.over (p := i * 6) (vs := ocell ⟨qi, qo, qp, qa, qpl, qb⟩) (by rw [ocell_length]; omega) (by rw [ocell_length]; omega)
        cases he
        rw [over_ocells F (by rw [hFl.out]; omega)] at hMi
        have s0 := hce 0 (by rw [ocell_length]; omega)
        have s1 := hce 1 (by rw [ocell_length]; omega)
        have s2 := hce 2 (by rw [ocell_length]; omega)
        have s3 := hce 3 (by rw [ocell_length]; omega)
        have s4 := hce 4 (by rw [ocell_length]; omega)
        have s5 := hce 5 (by rw [ocell_length]; omega)
        clear hce
        obtain ⟨s0, f0⟩ := s0
        obtain ⟨x0, s0⟩ := Option.isSome_iff_exists.1 s0
        obtain ⟨s1, f1⟩ := s1
        obtain ⟨x1, s1⟩ := Option.isSome_iff_exists.1 s1
        obtain ⟨s2, f2⟩ := s2
        obtain ⟨x2, s2⟩ := Option.isSome_iff_exists.1 s2
        obtain ⟨s3, f3⟩ := s3
        obtain ⟨x3, s3⟩ := Option.isSome_iff_exists.1 s3
        obtain ⟨s4, f4⟩ := s4
        obtain ⟨x4, s4⟩ := Option.isSome_iff_exists.1 s4
        obtain ⟨s5, f5⟩ := s5
        obtain ⟨x5, s5⟩ := Option.isSome_iff_exists.1 s5
        rw [Nat.add_zero] at s0 f0
        have HMi : Hid (Own ((((((w2.setCell ⟨b, o + i * 6, none⟩ (.int .i64 qi)).setCell ⟨b, o + i * 6 + 1, none⟩ (.int .i64 qo)).setCell ⟨b, o + i * 6 + 2, none⟩ (.int .i64 qp)).setCell ⟨b, o + i * 6 + 3, none⟩ (.int .i64 qa)).setCell ⟨b, o + i * 6 + 4, none⟩ (.int .i64 qpl)).setCell ⟨b, o + i * 6 + 5, none⟩ (.bool qb)) 6 (.slice (some ⟨b, o, none⟩) m c) bk m (ocells (F.set i ⟨qi, qo, qp, qa, qpl, qb⟩))) := Lib.hid hMi
        have HBi : Hid (Only (fun k => some k = bk) w ((((((w2.setCell ⟨b, o + i * 6, none⟩ (.int .i64 qi)).setCell ⟨b, o + i * 6 + 1, none⟩ (.int .i64 qo)).setCell ⟨b, o + i * 6 + 2, none⟩ (.int .i64 qp)).setCell ⟨b, o + i * 6 + 3, none⟩ (.int .i64 qa)).setCell ⟨b, o + i * 6 + 4, none⟩ (.int .i64 qpl)).setCell ⟨b, o + i * 6 + 5, none⟩ (.bool qb))) := Lib.hid ((((((hbc.out.setCell (.inl hg'.symm) _).setCell (.inl hg'.symm) _).setCell (.inl hg'.symm) _).setCell (.inl hg'.symm) _).setCell (.inl hg'.symm) _).setCell (.inl hg'.symm) _)
        clear hMi
        go_wp2
        go_roundg (m + 1 - (j + 1))
        case measure => exact HM.out
        case rel => exact ⟨i + 1, j + 1, F.set i ⟨qi, qo, qp, qa, qpl, qb⟩, rfl, by omega, by go_num, by go_num, e1, HMi, HBi⟩
    · obtain rfl : m = j := by omega
      have him : i < m := hij
      have hFF := hI.out
      have hdn : Hid (F.take i = L.filter Ord.live ∧ (L.filter Ord.live).length = i) := Lib.hid (by
        have h1 := hI.out
        rw [← hm.out] at h1
        exact h1.done)
      obtain ⟨gg, off, hgg, he, hce, hMi⟩ := hF.out.over (p := i * 6) (vs := (Builtin.zeroCells #[.int .i64 0, .int .i64 0, .int .i64 0, .int .i64 0, .int .i64 0, .bool false] (m - i)).toList) (by rw [zeroCells_length]; simp; omega) (by rw [zeroCells_length]; simp; omega)
      subst he
      have imI : (i : Int) ≤ (m : Int) := by omega
      have hcm := (hF.out.orow hFl.out).1
      have mcI : (m : Int) ≤ (c : Int) := by omega
      have hcl : ∀ cc, (Builtin.clear_ #[22] 0 #[.slice (some ⟨gg, off + i * 6, none⟩) (m - i) cc]).run Try.prog wr = .ok (.tuple #[]) (wr.setCells gg (off + i * 6) (Builtin.zeroCells #[.int .i64 0, .int .i64 0, .int .i64 0, .int .i64 0, .int .i64 0, .bool false] (m - i)).toList) := fun cc => by
        refine run_clear_rows wr _ _ 0 (.agg #[.int .i64 0, .int .i64 0, .int .i64 0, .int .i64 0, .int .i64 0, .bool false]) Try.underlying22 (fun wx => ?_) (by decide) gg _ (m - i) cc (by omega) fun k hk => hce k (by rw [zeroCells_length]; exact hk)
        obtain ⟨i1, hi1, hy0, _, _⟩ := info_parts info_order
        simp [zeroValue]
        rfl
      have HBz : Hid (Only (fun k => some k = bk) w (wr.setCells gg (off + i * 6) (Builtin.zeroCells #[.int .i64 0, .int .i64 0, .int .i64 0, .int .i64 0, .int .i64 0, .bool false] (m - i)).toList)) := Lib.hid (hb.out.trans ((only_setCells _ _ _ _).mono (S' := fun k => some k = bk) fun k hk => by rw [hk, hgg]) fun k hk => .inl hk)
      generalize wr.setCells gg _ _ = wz at hcl hMi HBz
      have HMz := Lib.hid hMi
      clear hMi hce
      go_upto_region 11 with (fail)
      go_wp2
      refine bodyPost_ret (by simp [results, Try.results44, asAddr, go_sem]; rfl) rfl ?_
      have hfin := HMz.out.front (r := i) (by omega) (by omega)
      rw [over_take (by rw [ocells_length, hFl.out]; omega)] at hfin
      have e1 : (ocells F).take (i * 6) = ocells (F.take i) := by
        have e2 : ocells F = ocells (F.take i) ++ ocells (F.drop i) := by rw [← ocells_append, List.take_append_drop]
        have e3 : (ocells (F.take i)).length = i * 6 := by rw [ocells_length, List.length_take, hFl.out]; omega
        rw [e2, List.take_append_of_le_length (by omega), List.take_of_length_le (by omega)]
      rw [e1] at hfin
      rw [hdn.out.1] at hfin
      exact ⟨some ⟨gg, off, none⟩, c, by rw [hdn.out.2], by rw [hdn.out.2]; exact hfin, HBz.out⟩
end Go.Proofs.Ytilbhnloelgpdaa
