/- Proposals, votes and cuts turn both logs alike. -/
import Derived.Test.YtedndjbhgbdpoaaRlT
import Derived.Test.YtedndjbhgbdpoaaVlC
namespace Go.Proofs.Ytedndjbhgbdpoaa
set_option linter.unusedSimpArgs false
theorem put_kept {x : Vl} {k : Nat} {s : Slot} (h : s.kept = (x.slots k).kept) : (x.put k s).kept = x.kept := by
  rw [Vl.kept_eq, Vl.kept_eq]
  refine Rl.filterMap_same fun i _ => ?_
  unfold Vl.keptAt
  have e : ((x.put k s).slot ((x.put k s).low + 1 + (i : Int))).kept = (x.slot (x.low + 1 + (i : Int))).kept := by
    show (if ix (x.low + 1 + (i : Int)) = k then s else x.slot (x.low + 1 + (i : Int))).kept = _
    by_cases c : ix (x.low + 1 + (i : Int)) = k
    · rw [if_pos c, h]; unfold Vl.slot; rw [c]
    · rw [if_neg c]
  rw [e]
namespace Pair
variable {x : Vl} {y : Rl}
theorem propose (h : Pair x y) (ho : x.Ok) (hi : x.KInv) (view seq : Int) (d b : ByteArray) : (y.propose view seq d b).2 = (x.propose view seq d b).2 ∧ Pair (x.propose view seq d b).1 (y.propose view seq d b).1 := by
  unfold Rl.propose Vl.propose
  rw [h.view]
  by_cases c1 : d = noText
  · rw [if_pos c1, if_pos c1]; exact ⟨rfl, h⟩
  rw [if_neg c1, if_neg c1]
  by_cases c2 : view ≠ x.view ∨ ¬ x.within seq
  · rw [if_pos c2, if_pos (by rw [h.within]; exact c2)]; exact ⟨rfl, h⟩
  rw [if_neg c2, if_neg (by rw [h.within]; exact c2)]
  have hw : x.within seq := Classical.not_not.1 fun e => c2 (.inr e)
  have hv : view = x.view := Classical.not_not.1 fun e => c2 (.inl e)
  rw [h.prop seq hw]
  unfold Slot.it
  by_cases c3 : (x.slot seq).has = false
  · have c3' : ¬ (x.slot seq).has = true := by rw [c3]; decide
    rw [if_pos c3, if_neg c3']
    refine ⟨rfl, ?_⟩
    have hs := hi seq hw
    have h1 : KSlot x.n seq { x.slot seq with has := true, digest := d, batch := b } := ⟨fun _ => c1, hs.votes, hs.kept⟩
    have hI := Vl.put_inv hi hw h1
    have hO : (x.put (ix seq) { x.slot seq with has := true, digest := d, batch := b }).Ok := Vl.put_ok ho (ho.votes _) (ho.kept _)
    have hq : 0 < (x.put (ix seq) { x.slot seq with has := true, digest := d, batch := b }).quorum := by
      have := ho.n
      show 0 < x.n - (x.n - 1) / 3
      omega
    refine take_keep (x := x.put (ix seq) { x.slot seq with has := true, digest := d, batch := b }) hq hI.kseq y ⟨2, 0, view, seq, d, b, Sg.none⟩ ?_ (by show ¬ (2 : Int) = 5; decide) hw
    subst hv
    refine ⟨h.n, h.view, h.low, fun s hws => ?_, fun j s frm hj hws h0 h1 => ?_, fun frm h0 h1 => ?_, ?_, fun it hit hk => ?_⟩
    · have hws' : x.within s := hws
      rw [Rl.proposal_more, h.prop s hws', Vl.put_slot]
      by_cases e : s = seq
      · subst e
        rw [if_pos rfl, if_pos (by simp [Rl.here, h.view, (h.within s).2 hws'])]
        unfold Slot.it
        rw [if_neg c3', if_pos rfl]
        rfl
      · rw [if_neg (ix_ne hws' hw e), if_neg (by simp [Rl.here]; intro _ _ h; exact absurd h.symm e), Option.or_none]
        rfl
    · have hws' : x.within s := hws
      rw [Rl.voted_more, h.votes j s frm hj hws' h0 h1, if_neg (by simp [Rl.here]; omega), Option.or_none, Vl.put_slot]
      by_cases e : ix s = ix seq
      · rw [if_pos e]
        have e2 : x.slot s = x.slot seq := by unfold Vl.slot; rw [e]
        rw [e2]; rfl
      · rw [if_neg e]; rfl
    · rw [Rl.last_more, if_neg (fun hh => absurd hh.1 (by show ¬ (2 : Int) = 5; decide))]; exact h.marks frm h0 h1
    · show y.kept = _
      rw [h.kept]
      refine (put_kept ?_).symm
      rfl
    · rcases List.mem_append.1 hit with hit | hit
      · exact h.past it hit hk
      · rw [List.mem_singleton.1 hit]
        exact ⟨by rw [← h.view]; exact Int.le_refl _, by have := hw.2; show seq ≤ y.low + 8; rw [h.low]; exact this⟩
  · have c3' : (x.slot seq).has = true := by simpa using c3
    rw [if_neg c3, if_pos c3']
    dsimp only
    by_cases c4 : (x.slot seq).digest = d ∧ (x.slot seq).batch = b
    · rw [if_pos c4, if_pos c4]; exact ⟨rfl, h⟩
    · rw [if_neg c4, if_neg c4]; exact ⟨rfl, h⟩
theorem vote (h : Pair x y) (ho : x.Ok) (hi : x.KInv) (m : Sg) (kind view seq : Int) (d : ByteArray) : (y.vote m kind view seq d).2 = (x.vote m kind view seq d).2 ∧ Pair (x.vote m kind view seq d).1 (y.vote m kind view seq d).1 := by
  unfold Rl.vote Vl.vote
  rw [h.view, h.n]
  by_cases c1 : m.frm < 0 ∨ x.n ≤ m.frm ∨ (kind ≠ 3 ∧ kind ≠ 4)
  · rw [if_pos c1, if_pos c1]; exact ⟨rfl, h⟩
  rw [if_neg c1, if_neg c1]
  by_cases c2 : view ≠ x.view ∨ ¬ x.within seq
  · rw [if_pos c2, if_pos (by rw [h.within]; exact c2)]; exact ⟨rfl, h⟩
  rw [if_neg c2, if_neg (by rw [h.within]; exact c2)]
  have hw : x.within seq := Classical.not_not.1 fun e => c2 (.inr e)
  have hv : view = x.view := Classical.not_not.1 fun e => c2 (.inl e)
  obtain ⟨j, hj, rfl⟩ : ∃ j : Nat, j < 2 ∧ kind = 3 + (j : Int) := ⟨(kind - 3).toNat, by omega, by omega⟩
  have ej : (3 + (j : Int) - 3).toNat = j := by omega
  rw [ej, h.votes j seq m.frm hj hw (by omega) (by omega)]
  cases hvo : (x.slot seq).votes j m.frm with
  | some v =>
    simp only [Option.map_some, Vt.it]
    by_cases c4 : v.d = d
    · rw [if_pos c4, if_pos c4]; exact ⟨rfl, h⟩
    · rw [if_neg c4, if_neg c4]; exact ⟨rfl, h⟩
  | none =>
    simp only [Option.map_none]
    refine ⟨trivial, ?_⟩
    have hq : 0 < (x.put (ix seq) ((x.slot seq).vote j m.frm ⟨m, d⟩)).quorum := by
      have := ho.n
      show 0 < x.n - (x.n - 1) / 3
      omega
    have hks : (x.put (ix seq) ((x.slot seq).vote j m.frm ⟨m, d⟩)).KSeq := fun s hs => by
      rw [Vl.put_slot]
      by_cases e : ix s = ix seq
      · rw [if_pos e]
        have e2 : x.slot s = x.slot seq := by unfold Vl.slot; rw [e]
        show (x.slot seq).kept.kind ≠ 0 → (x.slot seq).kept.seq = s
        rw [← e2]
        exact hi.kseq s hs
      · rw [if_neg e]; exact hi.kseq s hs
    refine take_keep (x := x.put (ix seq) ((x.slot seq).vote j m.frm ⟨m, d⟩)) hq hks y ⟨3 + (j : Int), m.frm, view, seq, d, noText, m⟩ ?_ (by show ¬ 3 + (j : Int) = 5; omega) hw
    subst hv
    refine ⟨h.n, h.view, h.low, fun s hws => ?_, fun j' s frm hj' hws h0 h1 => ?_, fun frm h0 h1 => ?_, ?_, fun it hit hk => ?_⟩
    · have hws' : x.within s := hws
      rw [Rl.proposal_more, h.prop s hws', if_neg (by simp [Rl.here]; omega), Option.or_none, Vl.put_slot]
      by_cases e : ix s = ix seq
      · rw [if_pos e]
        have e2 : x.slot s = x.slot seq := by unfold Vl.slot; rw [e]
        rw [e2]; rfl
      · rw [if_neg e]; rfl
    · have hws' : x.within s := hws
      rw [Rl.voted_more, h.votes j' s frm hj' hws' h0 h1, Vl.put_slot]
      by_cases e : s = seq
      · subst e
        rw [if_pos rfl]
        show _ = ((if j' = j then putAt ((x.slot s).votes j) m.frm ⟨m, d⟩ else (x.slot s).votes j') frm).map _
        by_cases e3 : j' = j
        · subst e3
          rw [if_pos rfl]
          by_cases e4 : frm = m.frm
          · subst e4
            unfold putAt
            rw [if_pos (by simp [Rl.here, h.view, (h.within s).2 hws']), hvo, if_pos rfl]
            rfl
          · unfold putAt
            rw [if_neg (by simp; intro _ _ hh; exact absurd hh.symm e4), Option.or_none, if_neg e4]
            rfl
        · rw [if_neg e3, if_neg (by simp [Rl.here]; intro _ hh; omega), Option.or_none]
          rfl
      · rw [if_neg (ix_ne hws' hw e), if_neg (by simp [Rl.here]; intro _ _ _ hh; exact absurd hh.symm e), Option.or_none]
        rfl
    · rw [Rl.last_more, if_neg (fun hh => by have : 3 + (j : Int) = 5 := hh.1; omega)]; exact h.marks frm h0 h1
    · show y.kept = _
      rw [h.kept]
      refine (put_kept ?_).symm
      rfl
    · rcases List.mem_append.1 hit with hit | hit
      · exact h.past it hit hk
      · rw [List.mem_singleton.1 hit]
        exact ⟨by rw [← h.view]; exact Int.le_refl _, by have := hw.2; show seq ≤ y.low + 8; rw [h.low]; exact this⟩
theorem filter_shift (f : Nat → Option Kb) (d : Nat) : (List.range 8).filterMap (fun i => if i + d < 8 then f (i + d) else Option.none) = (List.range 8).filterMap (fun i => if d ≤ i then f i else Option.none) := by
  have e : List.range 8 = [0, 1, 2, 3, 4, 5, 6, 7] := by decide
  rw [e]
  by_cases h : d < 8
  · rcases (show d = 0 ∨ d = 1 ∨ d = 2 ∨ d = 3 ∨ d = 4 ∨ d = 5 ∨ d = 6 ∨ d = 7 by omega) with rfl | rfl | rfl | rfl | rfl | rfl | rfl | rfl <;> simp [List.filterMap_cons]
  · have h1 : ∀ i, ¬ i + d < 8 := fun i => by omega
    have h2 : ∀ i, i < 8 → ¬ d ≤ i := fun i hi => by omega
    simp [List.filterMap_cons, h1, h2]
theorem cut (h : Pair x y) (hI : x.KInv) (seq : Int) : (y.cut seq).2 = (x.cut seq).2 ∧ Pair (x.cut seq).1 (y.cut seq).1 := by
  unfold Rl.cut
  rw [h.low]
  by_cases c : seq ≤ x.low ∨ 1073741824 < seq ∨ seq % 4 ≠ 0
  · rw [if_pos c, Vl.cut_bad c]; exact ⟨rfl, h⟩
  rw [if_neg c, Vl.cut_eq (by omega) (by omega) (by omega)]
  have hlt : x.low < seq := by omega
  have hno : ∀ it ∈ y.L, it.kind ≠ 5 → it.seq ≤ x.low + 8 := fun it hit hk => by rw [← h.low]; exact (h.past it hit hk).2
  refine ⟨rfl, h.n, h.view, rfl, fun s hw => ?_, fun j s frm hj hw h0 h1 => ?_, h.marks, ?_, fun it hit hk => ?_⟩
  · have hw' : seq < s ∧ s ≤ seq + 8 := hw
    have e1 : Vl.slot { x.wiped (min 8 (seq - x.low).toNat) with low := seq } s = if s ≤ x.low + 8 then x.slot s else Slot.none := Vl.wiped_slot x hlt hw'.1 hw'.2
    rw [e1]
    by_cases c2 : s ≤ x.low + 8
    · rw [if_pos c2]
      have hws : x.within s := ⟨by omega, c2⟩
      refine Eq.trans ?_ (h.prop s hws)
      unfold Rl.proposal
      rw [decide_eq_true ((h.within s).2 hws), decide_eq_true (show Rl.within { y with low := seq, kept := y.kept.filter fun k => decide (seq < k.seq) } s from hw')]
      rfl
    · rw [if_neg c2]
      show List.find? _ _ = Option.none
      rw [List.find?_eq_none]
      intro it hit
      simp only [Rl.here, Bool.and_eq_true, decide_eq_true_eq, not_and]
      intro _ ⟨hk, _⟩ hs
      have := hno it hit (by omega)
      omega
  · have hw' : seq < s ∧ s ≤ seq + 8 := hw
    have e1 : Vl.slot { x.wiped (min 8 (seq - x.low).toNat) with low := seq } s = if s ≤ x.low + 8 then x.slot s else Slot.none := Vl.wiped_slot x hlt hw'.1 hw'.2
    rw [e1]
    by_cases c2 : s ≤ x.low + 8
    · rw [if_pos c2]
      have hws : x.within s := ⟨by omega, c2⟩
      refine Eq.trans ?_ (h.votes j s frm hj hws h0 h1)
      unfold Rl.voted
      rw [decide_eq_true ((h.within s).2 hws), decide_eq_true (show Rl.within { y with low := seq, kept := y.kept.filter fun k => decide (seq < k.seq) } s from hw')]
      rfl
    · rw [if_neg c2]
      show List.find? _ _ = Option.none
      rw [List.find?_eq_none]
      intro it hit
      simp only [Rl.here, Bool.and_eq_true, decide_eq_true_eq, not_and]
      intro ⟨_, ⟨hk, _⟩, hs⟩
      have := hno it hit (by omega)
      omega
  · show y.kept.filter _ = _
    rw [h.kept, Vl.kept_eq, Vl.kept_eq]
    have e1 : (List.range 8).filterMap (Vl.keptAt { x.wiped (min 8 (seq - x.low).toNat) with low := seq }) = (List.range 8).filterMap (fun i => if i + (seq - x.low).toNat < 8 then x.keptAt (i + (seq - x.low).toNat) else Option.none) := Rl.filterMap_same fun i hi => by
      have hi8 := List.mem_range.1 hi
      unfold Vl.keptAt
      have e2 : Vl.slot { x.wiped (min 8 (seq - x.low).toNat) with low := seq } (seq + 1 + (i : Int)) = if seq + 1 + (i : Int) ≤ x.low + 8 then x.slot (seq + 1 + (i : Int)) else Slot.none := Vl.wiped_slot x hlt (by omega) (by omega)
      show (if (Vl.slot { x.wiped (min 8 (seq - x.low).toNat) with low := seq } (seq + 1 + (i : Int))).kept.kind ≠ 0 then some (Vl.slot { x.wiped (min 8 (seq - x.low).toNat) with low := seq } (seq + 1 + (i : Int))).kept else Option.none) = _
      rw [e2]
      have e3 : x.low + 1 + ((i + (seq - x.low).toNat : Nat) : Int) = seq + 1 + (i : Int) := by omega
      rw [e3]
      by_cases c2 : seq + 1 + (i : Int) ≤ x.low + 8
      · have c3 : i + (seq - x.low).toNat < 8 := by omega
        rw [if_pos c2, if_pos c3]
      · have c3 : ¬ i + (seq - x.low).toNat < 8 := by omega
        rw [if_neg c2, if_neg c3]; rfl
    rw [e1, filter_shift, List.filter_filterMap]
    refine Rl.filterMap_same fun i hi => ?_
    have hi8 := List.mem_range.1 hi
    cases hv : x.keptAt i with
    | none => simp
    | some b =>
      have hb := hI.kseq.at_ hi8 hv
      by_cases c3 : seq < b.seq
      · rw [if_pos (by omega)]; simp [Option.filter, c3]
      · rw [if_neg (by omega)]; simp [Option.filter, c3]
  · have := h.past it hit hk
    rw [h.low] at this
    exact ⟨this.1, by show it.seq ≤ seq + 8; omega⟩
end Pair
end Go.Proofs.Ytedndjbhgbdpoaa
