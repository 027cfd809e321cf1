/- Two quorums meet: the plain law. -/
import Derived.Test.YtedndjbhgbdpoaaV2
namespace Go.Proofs.Ytedndjbhgbdpoaa
theorem count_two {α : Type} (p q : α → Bool) : ∀ L : List α, L.countP p + L.countP q = L.countP (fun x => p x || q x) + L.countP (fun x => p x && q x)
  | [] => rfl
  | x :: L => by
    have := count_two p q L
    simp only [List.countP_cons]
    cases p x <;> cases q x <;> simp <;> omega
theorem count_below (k : Nat) : ∀ n, (List.range n).countP (fun (j : Nat) => decide (j < k)) ≤ k
  | 0 => by simp
  | n + 1 => by
    have h := count_below k n
    have h2 : (List.range n).countP (fun (j : Nat) => decide (j < k)) ≤ n := by
      have := List.countP_le_length (p := fun (j : Nat) => decide (j < k)) (l := List.range n)
      rwa [List.length_range] at this
    rw [List.range_succ, List.countP_append]
    by_cases hk : n < k
    · simp [hk]; omega
    · simp [hk]; omega
/-- What the j-th says at the place of x. -/
def says (k len : Nat) (Z : Nat → ByteArray) (x : ByteArray) (j : Nat) : Option ByteArray := if j < k then some x else if j - k < len then some (Z (j - k)) else none
theorem two_quorums {k len n : Nat} {Z : Nat → ByteArray} {x y : ByteArray} (hn : n = 3 * k + 1) (hx : 2 * k + 1 ≤ (List.range n).countP (fun j => decide (says k len Z x j = some x))) (hy : 2 * k + 1 ≤ (List.range n).countP (fun j => decide (says k len Z y j = some y))) : x = y := by
  refine Classical.byContradiction fun hne => ?_
  have h1 := count_two (fun j => decide (says k len Z x j = some x)) (fun j => decide (says k len Z y j = some y)) (List.range n)
  have h2 : (List.range n).countP (fun j => decide (says k len Z x j = some x) || decide (says k len Z y j = some y)) ≤ n := by
    have := List.countP_le_length (p := fun j => decide (says k len Z x j = some x) || decide (says k len Z y j = some y)) (l := List.range n)
    rwa [List.length_range] at this
  have h3 : (List.range n).countP (fun j => decide (says k len Z x j = some x) && decide (says k len Z y j = some y)) ≤ k := by
    refine Nat.le_trans (List.countP_mono_left fun j _ hj => ?_) (count_below k n)
    rw [Bool.and_eq_true, decide_eq_true_iff, decide_eq_true_iff] at hj
    rw [decide_eq_true_iff]
    refine Classical.byContradiction fun hk => ?_
    obtain ⟨a, b⟩ := hj
    unfold says at a b
    rw [if_neg hk] at a b
    split at a
    · rename_i h
      rw [if_pos h] at b
      exact hne ((Option.some.inj a).symm.trans (Option.some.inj b))
    · cases a
  omega
namespace Vl
/-- A log that took its proposal, then the votes of the first i. -/
def agStep (l : Vl) (k len : Nat) (Z : Nat → ByteArray) (x : ByteArray) (i : Nat) : Vl :=
  match says k len Z x i with
  | some d => (l.act ⟨2, (i : Int), 0, 1, d, tM⟩).1
  | Option.none => l
def agL (n k len : Nat) (Z : Nat → ByteArray) (x t : ByteArray) : Nat → Vl
  | 0 => ((fresh (n : Int)).propose 0 1 x t).1
  | i + 1 => (agL n k len Z x t i).agStep k len Z x i
structure AgI (l : Vl) (n k len : Nat) (Z : Nat → ByteArray) (x : ByteArray) (i : Nat) : Prop where
  n : l.n = (n : Int)
  view : l.view = 0
  low : l.low = 0
  has : (l.slot 1).has = true
  digest : (l.slot 1).digest = x
  votes : ∀ j : Nat, (l.slot 1).votes 0 (j : Int) = if j < i then (says k len Z x j).map (fun d => ⟨sOf ⟨2, (j : Int), 0, 1, d, tM⟩, d⟩) else Option.none
theorem keep_slot_has (l : Vl) (seq s : Int) : ((l.keep seq).slot s).has = (l.slot s).has ∧ ((l.keep seq).slot s).digest = (l.slot s).digest ∧ ((l.keep seq).slot s).votes = (l.slot s).votes := by
  unfold keep
  split
  · exact ⟨rfl, rfl, rfl⟩
  · rw [put_slot]
    split
    · rename_i h
      have e : l.slot s = l.slot seq := by unfold Vl.slot; rw [h]
      rw [e]; exact ⟨rfl, rfl, rfl⟩
    · exact ⟨rfl, rfl, rfl⟩
theorem keep_low (l : Vl) (seq : Int) : (l.keep seq).low = l.low ∧ (l.keep seq).view = l.view := by unfold keep; split <;> exact ⟨rfl, rfl⟩
theorem ag_start {n k len : Nat} {Z : Nat → ByteArray} {x t : ByteArray} (hx : x ≠ noText) : AgI (agL n k len Z x t 0) n k len Z x 0 := by
  have e : agL n k len Z x t 0 = ((fresh (n : Int)).put (ix 1) { (fresh (n : Int)).slot 1 with has := true, digest := x, batch := t }).keep 1 := by
    show ((fresh (n : Int)).propose 0 1 x t).1 = _
    unfold propose
    rw [if_neg hx, if_neg (by rintro (h | h); exact h rfl; exact h ⟨by show (0 : Int) < 1; omega, by show (1 : Int) ≤ 0 + 8; omega⟩), if_pos (show ((fresh (n : Int)).slot 1).has = false from rfl)]
  rw [e]
  obtain ⟨k1, k2, k3⟩ := keep_slot_has ((fresh (n : Int)).put (ix 1) { (fresh (n : Int)).slot 1 with has := true, digest := x, batch := t }) 1 1
  obtain ⟨k4, k5⟩ := keep_low ((fresh (n : Int)).put (ix 1) { (fresh (n : Int)).slot 1 with has := true, digest := x, batch := t }) 1
  refine ⟨keep_n _ _, k5, k4, ?_, ?_, fun j => ?_⟩
  · rw [k1, put_slot, if_pos rfl]
  · rw [k2, put_slot, if_pos rfl]
  · rw [k3, put_slot, if_pos rfl, if_neg (by omega)]; rfl
theorem ag_step {l : Vl} {n k len i : Nat} {Z : Nat → ByteArray} {x : ByteArray} (h : AgI l n k len Z x i) (hi : i < n) : AgI (l.agStep k len Z x i) n k len Z x (i + 1) := by
  unfold agStep
  cases hs : says k len Z x i with
  | none =>
    refine ⟨h.n, h.view, h.low, h.has, h.digest, fun j => ?_⟩
    rw [h.votes j]
    by_cases e : j = i
    · subst e
      rw [if_neg (by omega), if_pos (by omega), hs]; rfl
    · by_cases e2 : j < i
      · rw [if_pos e2, if_pos (by omega)]
      · rw [if_neg e2, if_neg (by omega)]
  | some d =>
    have hv := h.votes i
    rw [if_neg (by omega)] at hv
    have e : (l.act ⟨2, (i : Int), 0, 1, d, tM⟩).1 = (l.put (ix 1) ((l.slot 1).vote 0 (i : Int) ⟨sOf ⟨2, (i : Int), 0, 1, d, tM⟩, d⟩)).keep 1 := by
      have ha : l.act ⟨2, (i : Int), 0, 1, d, tM⟩ = l.vote (sOf ⟨2, (i : Int), 0, 1, d, tM⟩) 3 0 1 d := rfl
      rw [ha]
      unfold vote
      have hf : (sOf ⟨2, (i : Int), 0, 1, d, tM⟩).frm = (i : Int) := rfl
      rw [hf, h.n, if_neg (by omega), if_neg (by rintro (h2 | h2); exact h2 h.view.symm; exact h2 ⟨by rw [h.low]; omega, by rw [h.low]; omega⟩)]
      rw [show ((3 : Int) - 3).toNat = 0 from rfl, hv]
    show AgI (l.act ⟨2, (i : Int), 0, 1, d, tM⟩).1 n k len Z x (i + 1)
    rw [e]
    obtain ⟨k1, k2, k3⟩ := keep_slot_has (l.put (ix 1) ((l.slot 1).vote 0 (i : Int) ⟨sOf ⟨2, (i : Int), 0, 1, d, tM⟩, d⟩)) 1 1
    obtain ⟨k4, k5⟩ := keep_low (l.put (ix 1) ((l.slot 1).vote 0 (i : Int) ⟨sOf ⟨2, (i : Int), 0, 1, d, tM⟩, d⟩)) 1
    refine ⟨(keep_n _ _).trans h.n, k5.trans h.view, k4.trans h.low, ?_, ?_, fun j => ?_⟩
    · rw [k1, put_slot, if_pos rfl]; exact h.has
    · rw [k2, put_slot, if_pos rfl]; exact h.digest
    · rw [k3, put_slot, if_pos rfl]
      unfold Slot.vote putAt
      simp only [if_pos]
      by_cases e : (j : Int) = (i : Int)
      · obtain rfl : j = i := by omega
        rw [if_pos rfl, if_pos (by omega), hs]; rfl
      · rw [if_neg e, h.votes j]
        by_cases e2 : j < i
        · rw [if_pos e2, if_pos (by omega)]
        · rw [if_neg e2, if_neg (by omega)]
theorem ag_all {n k len : Nat} {Z : Nat → ByteArray} {x t : ByteArray} (hx : x ≠ noText) : ∀ i, i ≤ n → AgI (agL n k len Z x t i) n k len Z x i
  | 0, _ => ag_start hx
  | i + 1, h => ag_step (ag_all hx i (by omega)) (by omega)
theorem ag_prepared {n k len : Nat} {Z : Nat → ByteArray} {x t : ByteArray} (hx : x ≠ noText) (hn : n = 3 * k + 1) (h : (agL n k len Z x t n).prepared 1 = true) : 2 * k + 1 ≤ (List.range n).countP (fun j => decide (says k len Z x j = some x)) := by
  have hi := ag_all (k := k) (len := len) (Z := Z) (t := t) hx n (Nat.le_refl _)
  unfold prepared at h
  have h2 := (of_decide_eq_true h).2
  unfold Vl.quorum Vl.agree at h2
  rw [hi.n, agree_len] at h2
  rw [show ((n : Int)).toNat = n from rfl] at h2
  have e : (List.range n).countP (fun (i : Nat) => (((agL n k len Z x t n).slot 1).agreeing 0 (i : Int)).isSome) = (List.range n).countP (fun j => decide (says k len Z x j = some x)) := by
    refine List.countP_congr fun j hj => ?_
    rw [List.mem_range] at hj
    unfold Slot.agreeing
    rw [hi.votes j, if_pos hj, hi.has, hi.digest]
    cases hs : says k len Z x j with
    | none => simp
    | some d =>
      by_cases hd : d = x
      · simp [hd]
      · simp [hd]
  rw [e] at h2
  omega
theorem ag_law {n k len : Nat} {Z : Nat → ByteArray} {x y t : ByteArray} (hx : x ≠ noText) (hy : y ≠ noText) (hn : n = 3 * k + 1) (h1 : (agL n k len Z x t n).prepared 1 = true) (h2 : (agL n k len Z y t n).prepared 1 = true) : x = y :=
  two_quorums hn (ag_prepared hx hn h1) (ag_prepared hy hn h2)
end Vl
end Go.Proofs.Ytedndjbhgbdpoaa
