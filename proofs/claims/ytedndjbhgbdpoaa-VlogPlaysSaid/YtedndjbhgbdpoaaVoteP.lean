/- What a store into a map of votes does. -/
import Derived.Test.YtedndjbhgbdpoaaPropose
namespace Go.Proofs.Ytedndjbhgbdpoaa
open Go.RowKit
theorem boxed {w : World} {g gm : Nat} {gv : Nat → Nat → Option Nat} {kv : Nat → Value} {l : Vl} (h : AtV w g gm gv kv l) (c1 c2 : Array Value) (t1 t2 : TypeId) :
    AtV ((w.alloc (.cells c1 t1)).alloc (.cells c2 t2)) g gm gv kv l ∧ Blk ((w.alloc (.cells c1 t1)).alloc (.cells c2 t2)) w.heap.size t1 c1 ∧ Blk ((w.alloc (.cells c1 t1)).alloc (.cells c2 t2)) (w.heap.size + 1) t2 c2 ∧ Below w.heap.size w ((w.alloc (.cells c1 t1)).alloc (.cells c2 t2)) := by
  have hs : (w.alloc (.cells c1 t1)).heap.size = w.heap.size + 1 := by simp
  have hb : Below w.heap.size w ((w.alloc (.cells c1 t1)).alloc (.cells c2 t2)) := ((Below.refl _ _).alloc (Nat.le_refl _) _).alloc (by simp) _
  refine ⟨h.below hb, (Blk.new _ _ _).alloc _, ?_, hb⟩
  rw [← hs]; exact Blk.new _ _ _
theorem wpList_put {P : Program} {k e : TypeId} {w : World} {ops : Array Oper} {rest : List Oper} {o : Oper} {a : Act} {Q : Exit → Act → World → Prop} (hgd : o.guard = none) (m x v : Operand) (t : TypeId) (ho : o.op = .mapUpdate t m x v)
    (hk : P.underlying k = some (.int .i64)) (ht : P.underlying t = some (.map k e)) (b : Nat) (f : Int → Option Value) (i : Int) (val : Value) (hm : a.eval m = .map (some b)) (h : MapAt P k w b f) (hi : 0 ≤ i ∧ i < 13) (hx : a.eval x = .int .i64 i) (hv : a.eval v = val)
    (hK : ∀ w', MapAt P k w' b (putAt f i val) → w.grownBy w' (some b) → wpList P ops Q rest (a.put o.dst undef) w') : wpList P ops Q (o :: rest) a w := by
  refine wpList_plain hgd fun K' hK' => ?_
  obtain ⟨w', hrun, r1, r2⟩ := h.put hk ht hi val
  unfold Oper.wp
  simp [execOp, ho, hm, hx, hv, hrun, Result.andThen]
  exact hK' _ _ (hK w' r1 r2)
theorem AtV.voted {w w' : World} {g gm : Nat} {gv : Nat → Nat → Option Nat} {kv : Nat → Value} {l : Vl} (h : AtV w g gm gv kv l) {k j b : Nat} (hk : k < 8) (hj : j < 2) (hb : gv k j = some b) (i : Int) (v : Vt) (hi : 0 ≤ i ∧ i < l.n)
    (hm : MapAt Try.prog 3 w' b (putAt (votesOf (l.slots k) j) i v.val)) (hg : w.grownBy w' (some b)) : AtV w' g gm gv kv (l.put k ((l.slots k).vote j i v)) := by
  have hne : b ≠ g := fun e => by
    obtain ⟨es, cl, h1⟩ : ∃ es cl, w.heap[b]? = some (.map es cl) := by
      have := h.maps k j hk hj
      rw [hb] at this
      exact MapAt.cells this
    have h2 := h.blk
    unfold Blk at h2
    rw [e, h2] at h1; cases h1
  have hother : ∀ x, x ≠ b → x < w.heap.size → w'.heap[x]? = w.heap[x]? := fun x hx hlt => hg.block x hlt (fun e => hx (Option.some.inj e))
  obtain ⟨ab, au⟩ := h.apart k j b hk hj hb
  refine ⟨?_, fun k' j' hk' hj' => ?_, ?_, fun k' hk' => ?_, h.apart, ?_⟩
  · have e : vcells (l.put k ((l.slots k).vote j i v)) gv kv gm = vcells l gv kv gm := by
      unfold vcells
      refine List.map_congr_left fun x _ => ?_
      unfold vCell Vl.put
      simp only
      split
      · rfl
      split
      · rfl
      split
      · rfl
      split
      · rfl
      by_cases e : (x - 3) / 13 = k
      · rw [if_pos e, e]
        generalize (x - 3) % 13 = y
        unfold Slot.vote
        match y with
        | 0 | 1 | 2 | 3 | 4 | 5 | 6 | 7 | 8 | 9 | 10 | 11 | n + 12 => rfl
      · rw [if_neg e]
    rw [e]
    unfold Blk
    rw [hother g (Ne.symm hne) h.blk.lt]
    exact h.blk
  · by_cases e : k' = k ∧ j' = j
    · obtain ⟨rfl, rfl⟩ := e
      rw [hb]
      show MapAt _ _ _ _ _
      have e2 : votesOf ((l.put k' ((l.slots k').vote j' i v)).slots k') j' = putAt (votesOf (l.slots k') j') i v.val := by
        rw [show (l.put k' ((l.slots k').vote j' i v)).slots k' = (l.slots k').vote j' i v from if_pos rfl]
        funext x
        unfold votesOf Slot.vote putAt
        simp only [if_pos]
        split <;> rfl
      rw [e2]
      exact hm
    · have e2 : votesOf ((l.put k ((l.slots k).vote j i v)).slots k') j' = votesOf (l.slots k') j' := by
        by_cases e3 : k' = k
        · subst e3
          have hj3 : j' ≠ j := fun e4 => e ⟨rfl, e4⟩
          rw [show (l.put k' ((l.slots k').vote j i v)).slots k' = (l.slots k').vote j i v from if_pos rfl]
          unfold votesOf Slot.vote
          simp only [if_neg hj3]
        · rw [show (l.put k ((l.slots k).vote j i v)).slots k' = l.slots k' from if_neg e3]
      rw [e2]
      exact (h.maps k' j' hk' hj').carry fun b' hb' hlt => hother b' (fun e3 => e (by subst e3; exact au k' j' hk' hj' hb')) hlt
  · exact h.marks.carry (hother gm (Ne.symm ab) h.marks.lt)
  · have e2 : ((l.put k ((l.slots k).vote j i v)).slots k').kept = (l.slots k').kept := by
      by_cases e3 : k' = k
      · subst e3
        rw [show (l.put k' ((l.slots k').vote j i v)).slots k' = (l.slots k').vote j i v from if_pos rfl]; rfl
      · rw [show (l.put k ((l.slots k).vote j i v)).slots k' = l.slots k' from if_neg e3]
    rw [e2]
    refine (h.lists k' hk').carry (fun b' _ hlt hc => hother b' (fun e3 => ?_) hlt) hg.size
    subst e3
    obtain ⟨cs, t, fr, hc⟩ := hc
    have := h.maps k j hk hj
    rw [hb] at this
    obtain ⟨es, cl, h1⟩ := MapAt.cells this
    rw [hc] at h1; cases h1
  · refine Vl.put_ok h.ok (fun j' i' hv => ?_) (h.ok.kept k)
    unfold Slot.vote putAt at hv
    simp only at hv
    by_cases e : j' = j
    · rw [if_pos e] at hv
      by_cases e2 : i' = i
      · rw [e2]; exact hi
      · rw [if_neg e2] at hv
        exact h.ok.votes k j i' hv
    · rw [if_neg e] at hv
      exact h.ok.votes k j' i' hv
/-- A new map for a slot that has none. -/
theorem AtV.newMap {w : World} {g gm : Nat} {gv : Nat → Nat → Option Nat} {kv : Nat → Value} {l : Vl} (h : AtV w g gm gv kv l) {k j : Nat} (hk : k < 8) (hj : j < 2) (hb : gv k j = none) :
    AtV ((w.alloc (.map #[] 0)).setCell ⟨g, 3 + k * 13 + 3 + j, none⟩ (.map (some w.heap.size))) g gm (fun i => if i = k then (fun j' => if j' = j then some w.heap.size else gv k j') else gv i) kv l := by
  have hb1 : Below w.heap.size w (w.alloc (.map #[] 0)) := (Below.refl _ _).alloc (Nat.le_refl _) _
  have h1 := h.below hb1
  have hnone : ∀ i, votesOf (l.slots k) j i = none := by
    have := h.maps k j hk hj
    rw [hb] at this
    exact this
  have hM : MapAt Try.prog 3 (w.alloc (.map #[] 0)) w.heap.size (votesOf (l.slots k) j) := by
    rw [show votesOf (l.slots k) j = fun _ => none from funext hnone]
    exact MapAt.made w Try.prog 3
  have hlt : ∀ k' j' b, k' < 8 → j' < 2 → gv k' j' = some b → b < w.heap.size := fun k' j' b hk' hj' hb' => by
    have := h.maps k' j' hk' hj'
    rw [hb'] at this
    exact MapAt.lt this
  have hput := h1.slotPut (k := k) (o := 3 + j) hk [.map (some w.heap.size)] (by simp; omega) (l.slots k) (fun j' => if j' = j then some w.heap.size else gv k j') (kv k)
    (fun i hi => by
      simp only [List.length_cons, List.length_nil] at hi
      obtain rfl : i = 0 := by omega
      rcases (show j = 0 ∨ j = 1 by omega) with rfl | rfl <;> simp [slotCell])
    (fun i hi hi2 => by
      simp only [List.length_cons, List.length_nil] at hi2
      rcases (show j = 0 ∨ j = 1 by omega) with rfl | rfl
      · rcases (show i = 0 ∨ i = 1 ∨ i = 2 ∨ i = 4 ∨ i = 5 ∨ i = 6 ∨ i = 7 ∨ i = 8 ∨ i = 9 ∨ i = 10 ∨ i = 11 ∨ i = 12 by omega) with rfl | rfl | rfl | rfl | rfl | rfl | rfl | rfl | rfl | rfl | rfl | rfl <;> simp [slotCell]
      · rcases (show i = 0 ∨ i = 1 ∨ i = 2 ∨ i = 3 ∨ i = 5 ∨ i = 6 ∨ i = 7 ∨ i = 8 ∨ i = 9 ∨ i = 10 ∨ i = 11 ∨ i = 12 by omega) with rfl | rfl | rfl | rfl | rfl | rfl | rfl | rfl | rfl | rfl | rfl | rfl <;> simp [slotCell])
    (fun j' hj' => by
      by_cases e : j' = j
      · subst e
        refine .inr (.inr ⟨w.heap.size, by simp, hM, by have := h.marks.lt; omega, fun k' j2 hk' hj2 hb' => by have := hlt k' j2 _ hk' hj2 hb'; omega, fun j2 hj2 hb' => ?_⟩)
        by_cases e2 : j2 = j'
        · exact e2
        · simp only [if_neg e2] at hb'
          have := hlt k j2 _ hk hj2 hb'
          omega
      · exact .inl ⟨by simp [e], rfl⟩)
    (h1.lists k hk) (by
      have : l.put k (l.slots k) = l := by
        unfold Vl.put
        have e : (fun i => if i = k then l.slots k else l.slots i) = l.slots := by funext i; split <;> simp_all
        rw [e]
      rw [this]; exact h.ok)
  have e1 : l.put k (l.slots k) = l := by
    unfold Vl.put
    have e : (fun i => if i = k then l.slots k else l.slots i) = l.slots := by funext i; split <;> simp_all
    rw [e]
  have e2 : (fun i => if i = k then kv k else kv i) = kv := by funext i; split <;> simp_all
  rw [e1, e2, ← Nat.add_assoc] at hput
  exact hput
end Go.Proofs.Ytedndjbhgbdpoaa
