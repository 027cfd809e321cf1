/- What a store into a slot of a log does. -/
import Derived.Test.YtedndjbhgbdpoaaAgree
import Derived.Deep.MidRow
import Derived.Deep.Upon
namespace Go.Proofs.Ytedndjbhgbdpoaa
open Go.RowKit
def splice (cs : List Value) (o : Nat) : List Value → List Value
  | [] => cs
  | v :: r => splice (cs.set o v) (o + 1) r
theorem splice_at : ∀ (vs cs : List Value) (o i : Nat), o + vs.length ≤ cs.length → (splice cs o vs)[i]? = if o ≤ i ∧ i < o + vs.length then vs[i - o]? else cs[i]?
  | [], cs, o, i, _ => by
    rw [splice, if_neg (by simp)]
  | v :: r, cs, o, i, h => by
    rw [List.length_cons] at h
    rw [splice, splice_at r (cs.set o v) (o + 1) i (by rw [List.length_set]; omega), List.length_cons]
    by_cases e : i = o
    · subst e
      rw [if_neg (by omega), if_pos (by omega), List.getElem?_set_self (by omega), Nat.sub_self]; rfl
    · rw [List.getElem?_set_ne (fun e2 => e e2.symm)]
      by_cases h1 : o + 1 ≤ i ∧ i < o + 1 + r.length
      · rw [if_pos h1, if_pos (by omega), show i - o = (i - (o + 1)) + 1 from by omega, List.getElem?_cons_succ]
      · rw [if_neg h1, if_neg (by omega)]
theorem Blk.setCells {g : Nat} {t : TypeId} : ∀ (vs cs : List Value) (o : Nat) (w : World), Blk w g t cs.toArray → Blk (w.setCells g o vs) g t (splice cs o vs).toArray
  | [], _, _, _, h => h
  | v :: r, cs, o, w, h => by
    have h2 := h.set_ o v
    rw [List.setIfInBounds_toArray] at h2
    exact Blk.setCells r (cs.set o v) (o + 1) _ h2
theorem size_setCells (g : Nat) : ∀ (vs : List Value) (o : Nat) (w : World), (w.setCells g o vs).heap.size = w.heap.size
  | [], _, _ => rfl
  | v :: r, o, w => by rw [World.setCells, size_setCells g r (o + 1)]; simp
theorem vcells_splice {l : Vl} {gv gv' : Nat → Nat → Option Nat} {kv kv' : Nat → Value} {gm k o : Nat} {s' : Slot} {vs : List Value} (hk : k < 8) (ho : o + vs.length ≤ 13)
    (h1 : ∀ j, j < vs.length → vs[j]? = some (slotCell s' (gv' k) (kv' k) (o + j))) (h2 : ∀ j, j < 13 → (j < o ∨ o + vs.length ≤ j) → slotCell s' (gv' k) (kv' k) j = slotCell (l.slots k) (gv k) (kv k) j)
    (h3 : ∀ i, i ≠ k → gv' i = gv i ∧ kv' i = kv i) : splice (vcells l gv kv gm) (3 + k * 13 + o) vs = vcells (l.put k s') gv' kv' gm := by
  have hlen : (vcells l gv kv gm).length = 108 := by simp [vcells]
  apply List.ext_getElem?
  intro i
  rw [splice_at _ _ _ _ (by omega)]
  by_cases hi : i < 108
  · rw [vcells_at _ _ _ _ hi, vcells_at _ _ _ _ hi]
    by_cases hin : 3 + k * 13 + o ≤ i ∧ i < 3 + k * 13 + o + vs.length
    · rw [if_pos hin, h1 _ (by omega)]
      obtain ⟨j, rfl⟩ : ∃ j, i = 3 + k * 13 + (o + j) := ⟨i - (3 + k * 13 + o), by omega⟩
      rw [vCell_slot hk (by omega), show 3 + k * 13 + (o + j) - (3 + k * 13 + o) = j from by omega]
      unfold Vl.put
      simp
    · rw [if_neg hin]
      unfold vCell
      by_cases e0 : i = 0
      · rw [if_pos e0, if_pos e0]; rfl
      by_cases e1 : i = 1
      · rw [if_neg e0, if_neg e0, if_pos e1, if_pos e1]; rfl
      by_cases e2 : i = 2
      · rw [if_neg e0, if_neg e0, if_neg e1, if_neg e1, if_pos e2, if_pos e2]; rfl
      by_cases e3 : i = 107
      · rw [if_neg e0, if_neg e0, if_neg e1, if_neg e1, if_neg e2, if_neg e2, if_pos e3, if_pos e3]
      rw [if_neg e0, if_neg e0, if_neg e1, if_neg e1, if_neg e2, if_neg e2, if_neg e3, if_neg e3]
      obtain ⟨a, ha⟩ : ∃ a, (i - 3) / 13 = a := ⟨_, rfl⟩
      obtain ⟨b, hb⟩ : ∃ b, (i - 3) % 13 = b := ⟨_, rfl⟩
      rw [ha, hb]
      by_cases e : a = k
      · subst e
        rw [show (l.put a s').slots a = s' from if_pos rfl, h2 b (by omega) (by omega)]
      · rw [show (l.put k s').slots a = l.slots a from if_neg e, (h3 a e).1, (h3 a e).2]
  · rw [if_neg (by omega), List.getElem?_eq_none (by omega), List.getElem?_eq_none (by simp [vcells]; omega)]
/-- What may become of a slot's map. -/
def MapTo (w : World) (gm : Nat) (gv : Nat → Nat → Option Nat) (gk : Nat → Option Nat) (s s' : Slot) (k j : Nat) : Prop :=
  (gk j = gv k j ∧ votesOf s' j = votesOf s j) ∨ (gk j = none ∧ ∀ i, votesOf s' j i = none) ∨
    ∃ b, gk j = some b ∧ MapAt Try.prog 3 w b (votesOf s' j) ∧ b ≠ gm ∧ (∀ k' j', k' < 8 → j' < 2 → gv k' j' ≠ some b) ∧ ∀ j', j' < 2 → gk j' = some b → j' = j
theorem AtV.slotPut {w : World} {g gm : Nat} {gv : Nat → Nat → Option Nat} {kv : Nat → Value} {l : Vl} (h : AtV w g gm gv kv l) {k o : Nat} (hk : k < 8) (vs : List Value) (ho : o + vs.length ≤ 13) (s' : Slot) (gk : Nat → Option Nat) (kv1 : Value)
    (h1 : ∀ j, j < vs.length → vs[j]? = some (slotCell s' gk kv1 (o + j))) (h2 : ∀ j, j < 13 → (j < o ∨ o + vs.length ≤ j) → slotCell s' gk kv1 j = slotCell (l.slots k) (gv k) (kv k) j)
    (hm : ∀ j, j < 2 → MapTo w gm gv gk (l.slots k) s' k j) (hl : ListAt w g kv1 s'.kept.list) (hok : (l.put k s').Ok) :
    AtV (w.setCells g (3 + k * 13 + o) vs) g gm (fun i => if i = k then gk else gv i) (fun i => if i = k then kv1 else kv i) (l.put k s') := by
  have hsz := size_setCells g vs (3 + k * 13 + o) w
  have hother : ∀ b, b ≠ g → b < w.heap.size → (w.setCells g (3 + k * 13 + o) vs).heap[b]? = w.heap[b]? := fun b hb hlt => World.heap_setCells_other w g _ vs hlt hb
  have hne : ∀ b es cl, w.heap[b]? = some (.map es cl) → b ≠ g := fun b es cl hb e => by
    have := h.blk
    unfold Blk at this
    rw [e, this] at hb; cases hb
  have hmap : ∀ b f, MapAt Try.prog 3 w b f → MapAt Try.prog 3 (w.setCells g (3 + k * 13 + o) vs) b f := fun b f hb => by
    obtain ⟨es, cl, hc⟩ := hb.cells
    exact hb.carry (hother b (hne b es cl hc) hb.lt)
  have hlist : ∀ v L, ListAt w g v L → ListAt (w.setCells g (3 + k * 13 + o) vs) g v L := fun v L hL => hL.carry (fun b hb hlt _ => hother b hb hlt) (by omega)
  refine ⟨?_, fun i j hi hj => ?_, ?_, fun i hi => ?_, fun i j b hi hj hb => ?_, hok⟩
  · rw [← vcells_splice (l := l) (gv := gv) (kv := kv) (gv' := fun i => if i = k then gk else gv i) (kv' := fun i => if i = k then kv1 else kv i) hk ho (by simpa using h1) (by simpa using h2) fun i hi => ⟨if_neg hi, if_neg hi⟩]
    exact Blk.setCells vs _ _ w h.blk
  · by_cases e : i = k
    · subst e
      rw [show (l.put i s').slots i = s' from if_pos rfl]
      simp only [if_pos]
      rcases hm j hj with ⟨e1, e2⟩ | ⟨e1, e2⟩ | ⟨b, e1, e2, _⟩
      · rw [e1, e2]
        have := h.maps i j hi hj
        cases hgv : gv i j with
        | none => rw [hgv] at this; exact this
        | some b => rw [hgv] at this; exact hmap b _ this
      · rw [e1]; exact e2
      · rw [e1]; exact hmap b _ e2
    · rw [show (l.put k s').slots i = l.slots i from if_neg e]
      simp only [if_neg e]
      have := h.maps i j hi hj
      cases hgv : gv i j with
      | none => rw [hgv] at this; exact this
      | some b => rw [hgv] at this; exact hmap b _ this
  · exact hmap gm _ h.marks
  · by_cases e : i = k
    · subst e
      rw [show (l.put i s').slots i = s' from if_pos rfl]
      simp only [if_pos]
      exact hlist _ _ hl
    · rw [show (l.put k s').slots i = l.slots i from if_neg e]
      simp only [if_neg e]
      exact hlist _ _ (h.lists i hi)
  · by_cases e : i = k
    · subst e
      simp only [if_pos] at hb
      rcases hm j hj with ⟨e1, e2⟩ | ⟨e1, e2⟩ | ⟨b', e1, e2, e3, e4, e5⟩
      · rw [e1] at hb
        obtain ⟨a1, a2⟩ := h.apart i j b hi hj hb
        refine ⟨a1, fun i' j' hi' hj' hb' => ?_⟩
        by_cases e' : i' = i
        · subst e'
          simp only [if_pos] at hb'
          refine ⟨rfl, ?_⟩
          rcases hm j' hj' with ⟨f1, _⟩ | ⟨f1, _⟩ | ⟨b2, f1, _, _, f4, _⟩
          · rw [f1] at hb'; exact (a2 i' j' hi' hj' hb').2
          · rw [f1] at hb'; cases hb'
          · rw [f1] at hb'; cases hb'; exact absurd hb (f4 i' j hi hj)
        · simp only [if_neg e'] at hb'
          exact a2 i' j' hi' hj' hb'
      · rw [e1] at hb; cases hb
      · rw [e1] at hb
        cases hb
        refine ⟨e3, fun i' j' hi' hj' hb' => ?_⟩
        by_cases e' : i' = i
        · subst e'
          simp only [if_pos] at hb'
          exact ⟨rfl, e5 j' hj' hb'⟩
        · simp only [if_neg e'] at hb'
          exact absurd hb' (e4 i' j' hi' hj')
    · simp only [if_neg e] at hb
      obtain ⟨a1, a2⟩ := h.apart i j b hi hj hb
      refine ⟨a1, fun i' j' hi' hj' hb' => ?_⟩
      by_cases e' : i' = k
      · subst e'
        simp only [if_pos] at hb'
        rcases hm j' hj' with ⟨f1, _⟩ | ⟨f1, _⟩ | ⟨b2, f1, _, _, f4, _⟩
        · rw [f1] at hb'; exact a2 i' j' hi' hj' hb'
        · rw [f1] at hb'; cases hb'
        · rw [f1] at hb'; cases hb'; exact absurd hb (f4 i j hi hj)
      · simp only [if_neg e'] at hb'
        exact a2 i' j' hi' hj' hb'
theorem only_setCells (w : World) (g o : Nat) (vs : List Value) : Only (fun b => b = g) w (w.setCells g o vs) := by
  induction vs generalizing o w with
  | nil => exact Only.refl _ _
  | cons v r ih =>
    rw [World.setCells]
    exact ((Only.refl (fun b => b = g) w).setCell (g := g) (j := o) (.inl rfl) v).trans (ih (w.setCell ⟨g, o, none⟩ v) (o + 1)) fun b hb => .inl hb
end Go.Proofs.Ytedndjbhgbdpoaa
