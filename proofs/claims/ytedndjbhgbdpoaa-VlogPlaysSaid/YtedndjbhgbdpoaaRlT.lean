/- A proposal and a vote turn both logs alike. -/
import Derived.Test.YtedndjbhgbdpoaaRlC
import Derived.Test.YtedndjbhgbdpoaaVlI
namespace Go.Proofs.Ytedndjbhgbdpoaa
namespace Rl
theorem filterMap_same {α β : Type} {f g : α → Option β} : ∀ {l : List α}, (∀ a ∈ l, f a = g a) → l.filterMap f = l.filterMap g
  | [], _ => rfl
  | a :: l, h => by rw [List.filterMap_cons, List.filterMap_cons, h a (List.mem_cons_self ..), filterMap_same fun b hb => h b (List.mem_cons_of_mem _ hb)]
theorem takeWhile_none {α : Type} (p : α → Bool) (L : List α) (h : ∀ a ∈ L, p a = false) : L.takeWhile p = [] := by
  cases L with
  | nil => rfl
  | cons a L => rw [List.takeWhile_cons, h a (List.mem_cons_self ..)]; rfl
theorem slip_split (P Q : List Kb) (b : Kb) (hP : ∀ k ∈ P, k.seq < b.seq) (hQ : ∀ k ∈ Q, b.seq < k.seq) : slip (P ++ Q) b = P ++ b :: Q := by
  unfold slip
  rw [List.reverse_append, List.takeWhile_append_of_pos (fun a ha => decide_eq_true (hQ a (List.mem_reverse.1 ha))), takeWhile_none _ P.reverse (fun a ha => decide_eq_false (by have := hP a (List.mem_reverse.1 ha); omega)), List.append_nil]
  simp only [List.length_append, List.length_reverse, Nat.add_sub_cancel]
  rw [List.take_left, List.drop_left]
theorem range_at (j : Nat) (hj : j < 8) : List.range 8 = List.range j ++ j :: (List.range (7 - j)).map (fun i => j + (1 + i)) := by
  rcases (show j = 0 ∨ j = 1 ∨ j = 2 ∨ j = 3 ∨ j = 4 ∨ j = 5 ∨ j = 6 ∨ j = 7 by omega) with rfl | rfl | rfl | rfl | rfl | rfl | rfl | rfl <;> decide
theorem slip_kept (f : Nat → Option Kb) (low : Int) (hf : ∀ i b, f i = some b → b.seq = low + 1 + (i : Int)) (j : Nat) (hj : j < 8) (b : Kb) (hb : b.seq = low + 1 + (j : Int)) :
    slip (((List.range 8).filterMap f).filter fun k => decide (k.seq ≠ b.seq)) b = (List.range 8).filterMap (fun i => if i = j then some b else f i) := by
  rw [range_at j hj, List.filterMap_append, List.filterMap_append, List.filter_append, List.filterMap_cons_some (f := fun i => if i = j then some b else f i) (b := b) (by rw [if_pos rfl])]
  have hP : ∀ k ∈ (List.range j).filterMap f, k.seq < b.seq := fun k hk => by
    obtain ⟨i, h1, h2⟩ := List.mem_filterMap.1 hk
    rw [hf i k h2, hb]
    have := List.mem_range.1 h1
    omega
  have hQ : ∀ k ∈ ((List.range (7 - j)).map (fun i => j + (1 + i))).filterMap f, b.seq < k.seq := fun k hk => by
    obtain ⟨i, h1, h2⟩ := List.mem_filterMap.1 hk
    obtain ⟨i', _, rfl⟩ := List.mem_map.1 h1
    rw [hf _ k h2, hb]
    omega
  have e1 : ((List.range j).filterMap f).filter (fun k => decide (k.seq ≠ b.seq)) = (List.range j).filterMap f := List.filter_eq_self.2 fun k hk => decide_eq_true (by have := hP k hk; omega)
  have e2 : ((j :: (List.range (7 - j)).map (fun i => j + (1 + i))).filterMap f).filter (fun k => decide (k.seq ≠ b.seq)) = ((List.range (7 - j)).map (fun i => j + (1 + i))).filterMap f := by
    have e3 : (((List.range (7 - j)).map (fun i => j + (1 + i))).filterMap f).filter (fun k => decide (k.seq ≠ b.seq)) = ((List.range (7 - j)).map (fun i => j + (1 + i))).filterMap f := List.filter_eq_self.2 fun k hk => decide_eq_true (by have := hQ k hk; omega)
    cases hv : f j with
    | none => rw [List.filterMap_cons_none hv, e3]
    | some k =>
      rw [List.filterMap_cons_some hv, List.filter_cons_of_neg, e3]
      have := hf j k hv
      simp; omega
  rw [e1, e2, slip_split _ _ b hP hQ]
  have f1 : (List.range j).filterMap (fun i => if i = j then some b else f i) = (List.range j).filterMap f := Rl.filterMap_same fun i hi => by
    have := List.mem_range.1 hi
    rw [if_neg (by omega)]
  have f2 : ((List.range (7 - j)).map (fun i => j + (1 + i))).filterMap (fun i => if i = j then some b else f i) = ((List.range (7 - j)).map (fun i => j + (1 + i))).filterMap f := Rl.filterMap_same fun i hi => by
    obtain ⟨i', _, rfl⟩ := List.mem_map.1 hi
    rw [if_neg (by omega)]
  rw [f1, f2]
end Rl
def Vl.keptAt (l : Vl) (i : Nat) : Option Kb := if (l.slot (l.low + 1 + (i : Int))).kept.kind ≠ 0 then some (l.slot (l.low + 1 + (i : Int))).kept else Option.none
theorem Vl.kept_eq (l : Vl) : l.kept = (List.range 8).filterMap l.keptAt := rfl
/-- What is kept is of its number. -/
def Vl.KSeq (l : Vl) : Prop := ∀ s, l.within s → (l.slot s).kept.kind ≠ 0 → (l.slot s).kept.seq = s
theorem Vl.KInv.kseq {l : Vl} (h : l.KInv) : l.KSeq := fun s hw hk => ((h s hw).kept hk).1
theorem Vl.KSeq.at_ {l : Vl} (h : l.KSeq) {i : Nat} (hi : i < 8) {b : Kb} (hb : l.keptAt i = some b) : b.seq = l.low + 1 + (i : Int) := by
  unfold Vl.keptAt at hb
  split at hb
  · rename_i hk
    cases hb
    exact h _ ⟨by omega, by omega⟩ hk
  · cases hb
namespace Pair
variable {x : Vl} {y : Rl}
theorem within (h : Pair x y) (seq : Int) : y.within seq ↔ x.within seq := by unfold Rl.within Vl.within; rw [h.low]
theorem quorum (h : Pair x y) : y.quorum = x.quorum := by unfold Rl.quorum Vl.quorum; rw [h.n]
theorem agree (h : Pair x y) {seq : Int} (hw : x.within seq) {j : Nat} (hj : j < 2) : y.agree (3 + (j : Int)) seq = x.agree seq j := by
  unfold Rl.agree Vl.agree Slot.agree
  rw [h.prop seq hw, h.n]
  unfold Slot.it
  by_cases c : (x.slot seq).has = true
  · rw [if_pos c]
    refine Rl.filterMap_same fun i hi => ?_
    have := List.mem_range.1 hi
    unfold Rl.agreeing Slot.agreeing
    rw [h.votes j seq i hj hw (by omega) (by omega)]
    cases (x.slot seq).votes j (i : Int) with
    | none => rfl
    | some v => simp [Vt.it, c]
  · rw [if_neg c]
    symm
    rw [List.filterMap_eq_nil_iff]
    intro i _
    unfold Slot.agreeing
    split
    · rw [if_neg (fun hh => c hh.1)]
    · rfl
theorem agree3 (h : Pair x y) {seq : Int} (hw : x.within seq) : y.agree 3 seq = x.agree seq 0 := h.agree hw (j := 0) (by omega)
theorem agree4 (h : Pair x y) {seq : Int} (hw : x.within seq) : y.agree 4 seq = x.agree seq 1 := h.agree hw (j := 1) (by omega)
theorem put_keep (h : Pair x y) {seq : Int} (b : Kb) (L : List Kb) (hL : L = (x.put (ix seq) { x.slot seq with kept := b }).kept) : Pair (x.put (ix seq) { x.slot seq with kept := b }) { y with kept := L } := by
  have hs : ∀ s, ((x.put (ix seq) { x.slot seq with kept := b }).slot s).it (x.put (ix seq) { x.slot seq with kept := b }) s = (x.slot s).it x s ∧ ((x.put (ix seq) { x.slot seq with kept := b }).slot s).votes = (x.slot s).votes := fun s => by
    rw [Vl.put_slot]
    by_cases e : ix s = ix seq
    · rw [if_pos e]
      have e2 : x.slot s = x.slot seq := by unfold Vl.slot; rw [e]
      rw [e2]
      exact ⟨rfl, rfl⟩
    · rw [if_neg e]; exact ⟨rfl, rfl⟩
  refine ⟨h.n, h.view, h.low, fun s hw => ?_, fun j s frm hj hw h0 h1 => ?_, h.marks, hL, h.past⟩
  · rw [(hs s).1]; exact h.prop s hw
  · rw [(hs s).2]; exact h.votes j s frm hj hw h0 h1
theorem kept_any (h : Pair x y) (hk : x.KSeq) {seq : Int} (hw : x.within seq) (v : Int) : (y.kept.any fun k => decide (k.seq = seq) && decide (k.view = v)) = decide ((x.slot seq).kept.kind ≠ 0 ∧ (x.slot seq).kept.view = v) := by
  rw [h.kept, Vl.kept_eq]
  obtain ⟨j, hj, rfl⟩ : ∃ j : Nat, j < 8 ∧ seq = x.low + 1 + (j : Int) := ⟨(seq - x.low - 1).toNat, by unfold Vl.within at hw; omega, by unfold Vl.within at hw; omega⟩
  by_cases c : (x.slot (x.low + 1 + (j : Int))).kept.kind ≠ 0 ∧ (x.slot (x.low + 1 + (j : Int))).kept.view = v
  · rw [decide_eq_true c, List.any_eq_true]
    refine ⟨(x.slot (x.low + 1 + (j : Int))).kept, List.mem_filterMap.2 ⟨j, List.mem_range.2 hj, by unfold Vl.keptAt; rw [if_pos c.1]⟩, ?_⟩
    rw [hk _ hw c.1, c.2]
    simp
  · rw [decide_eq_false c, List.any_eq_false]
    intro b hb
    obtain ⟨i, hi, hb2⟩ := List.mem_filterMap.1 hb
    have hi8 := List.mem_range.1 hi
    simp only [Bool.and_eq_true, decide_eq_true_eq, not_and]
    intro e1 e2
    have e3 := hk.at_ hi8 hb2
    have : i = j := by omega
    subst this
    unfold Vl.keptAt at hb2
    split at hb2
    · rename_i hne
      cases hb2
      exact c ⟨hne, e2⟩
    · cases hb2
theorem take_keep (hx : 0 < x.quorum) (hk : x.KSeq) (z : Rl) (it : It) (h : Pair x (z.more it)) (hkd : it.kind ≠ 5) (hw : x.within it.seq) : Pair (x.keep it.seq) (z.taken it) := by
  have hq := h.quorum
  have ha := h.agree3 hw
  have hv : z.view = x.view := h.view
  have hany := h.kept_any hk hw x.view
  have hkp : z.kept = x.kept := h.kept
  have e : z.taken it = if it.kind = 5 ∨ (((z.more it).agree 3 it.seq).length : Int) < (z.more it).quorum then z.more it
    else if z.kept.any (fun k => decide (k.seq = it.seq) && decide (k.view = z.view)) then z.more it
    else { z.more it with kept := Rl.slip (z.kept.filter fun k => decide (k.seq ≠ it.seq)) ⟨11, z.view, it.seq, (((z.more it).proposal it.seq).getD It.none).digest, (((z.more it).proposal it.seq).getD It.none).batch, ((z.more it).agree 3 it.seq).take (z.more it).quorum.toNat⟩ } := rfl
  have hany2 : (z.kept.any fun k => decide (k.seq = it.seq) && decide (k.view = x.view)) = decide ((x.slot it.seq).kept.kind ≠ 0 ∧ (x.slot it.seq).kept.view = x.view) := hany
  rw [ha, hq, hv, hany2] at e
  by_cases c1 : ((x.agree it.seq 0).length : Int) < x.quorum
  · rw [if_pos (.inr c1)] at e
    have ex : x.keep it.seq = x := if_pos (.inl c1)
    rw [ex, e]; exact h
  · rw [if_neg (fun hh => hh.elim hkd c1)] at e
    by_cases c2 : (x.slot it.seq).kept.kind ≠ 0 ∧ (x.slot it.seq).kept.view = x.view
    · rw [decide_eq_true c2, if_pos rfl] at e
      have ex : x.keep it.seq = x := if_pos (.inr c2)
      rw [ex, e]; exact h
    · rw [decide_eq_false c2, if_neg (by simp)] at e
      have ex : x.keep it.seq = x.put (ix it.seq) { x.slot it.seq with kept := ⟨11, x.view, it.seq, (x.slot it.seq).digest, (x.slot it.seq).batch, (x.agree it.seq 0).take x.quorum.toNat⟩ } := if_neg (fun hh => hh.elim c1 c2)
      rw [ex, e]
      have hhas : (x.slot it.seq).has = true := agree_has (j := 0) (k := x.n.toNat) (by show 0 < (x.agree it.seq 0).length; omega)
      have hp : (z.more it).proposal it.seq = some ⟨2, 0, x.view, it.seq, (x.slot it.seq).digest, (x.slot it.seq).batch, Sg.none⟩ := by
        rw [h.prop _ hw]; unfold Slot.it; rw [if_pos hhas]
      rw [hp]
      refine h.put_keep (seq := it.seq) _ _ ?_
      obtain ⟨j, hj, hse⟩ : ∃ j : Nat, j < 8 ∧ it.seq = x.low + 1 + (j : Int) := ⟨(it.seq - x.low - 1).toNat, by unfold Vl.within at hw; omega, by unfold Vl.within at hw; omega⟩
      rw [hkp, Vl.kept_eq]
      have hf : ∀ i b, (fun i => if i < 8 then x.keptAt i else Option.none) i = some b → b.seq = x.low + 1 + (i : Int) := fun i b hb => by
        dsimp only at hb
        split at hb
        · exact hk.at_ (by assumption) hb
        · cases hb
      have e8 : (List.range 8).filterMap x.keptAt = (List.range 8).filterMap (fun i => if i < 8 then x.keptAt i else Option.none) := Rl.filterMap_same fun i hi => by rw [if_pos (List.mem_range.1 hi)]
      rw [e8]
      refine (Rl.slip_kept _ x.low hf j hj ⟨11, x.view, it.seq, (x.slot it.seq).digest, (x.slot it.seq).batch, (x.agree it.seq 0).take x.quorum.toNat⟩ hse).trans ?_
      rw [Vl.kept_eq]
      refine Rl.filterMap_same fun i hi => ?_
      have hi8 := List.mem_range.1 hi
      unfold Vl.keptAt
      rw [Vl.put_slot]
      show _ = if (if ix (x.low + 1 + (i : Int)) = ix it.seq then ({ x.slot it.seq with kept := _ } : Slot) else x.slot (x.low + 1 + (i : Int))).kept.kind ≠ 0 then _ else _
      by_cases e9 : i = j
      · subst e9
        have ei : ix (x.low + 1 + (i : Int)) = ix it.seq := by rw [hse]
        rw [if_pos rfl]
        show _ = if (if ix (x.low + 1 + (i : Int)) = ix it.seq then ({ x.slot it.seq with kept := _ } : Slot) else x.slot (x.low + 1 + (i : Int))).kept.kind ≠ 0 then some (if ix (x.low + 1 + (i : Int)) = ix it.seq then ({ x.slot it.seq with kept := _ } : Slot) else x.slot (x.low + 1 + (i : Int))).kept else Option.none
        rw [if_pos ei]
        rfl
      · rw [if_neg e9, if_pos hi8]
        have ei : ¬ ix (x.low + 1 + (i : Int)) = ix it.seq := by unfold ix; omega
        show _ = if (if ix (x.low + 1 + (i : Int)) = ix it.seq then ({ x.slot it.seq with kept := _ } : Slot) else x.slot (x.low + 1 + (i : Int))).kept.kind ≠ 0 then some (if ix (x.low + 1 + (i : Int)) = ix it.seq then ({ x.slot it.seq with kept := _ } : Slot) else x.slot (x.low + 1 + (i : Int))).kept else Option.none
        rw [if_neg ei]
end Pair
end Go.Proofs.Ytedndjbhgbdpoaa
