/- Checkpoints: the plain law; a log without proposals beside two rows of the law's own. -/
import Derived.Test.YtedndjbhgbdpoaaStab
import Derived.Test.YtedndjbhgbdpoaaVlI
import Derived.Test.YtedndjbhgbdpoaaAgL
namespace Go.Proofs.Ytedndjbhgbdpoaa
open Go.RowKit
namespace Vl
def sq (l : Vl) (j : Nat) : Int := ((l.marks (j : Int)).getD Mk.zero).seq
def rt (l : Vl) (j : Nat) : ByteArray := ((l.marks (j : Int)).getD Mk.zero).root
/-- A log of seven that saw checkpoints alone. -/
structure CI (l : Vl) : Prop where
  n : l.n = 7
  low : l.low = 0
  slots : ∀ k, l.slots k = Slot.none
  marks : ∀ i mk, l.marks i = some mk → 0 < mk.seq ∧ 0 ≤ i ∧ i < 7 ∧ mk.m.frm = i
theorem ci_seven : CI seven := ⟨rfl, rfl, fun _ => rfl, fun _ _ h => by cases h⟩
theorem check_law {l : Vl} (h : CI l) (a : VAct) (hk : a.kind = 4) :
    ((l.act a).2 = 0 ∧ 0 ≤ a.frm ∧ a.frm < 7 ∧ CI (l.act a).1 ∧ (∀ j : Nat, (l.act a).1.sq j = if (j : Int) = a.frm then a.seq else l.sq j) ∧ ∀ j : Nat, (l.act a).1.rt j = if (j : Int) = a.frm then a.d else l.rt j) ∨ ((l.act a).2 ≠ 0 ∧ (l.act a).1 = l) := by
  have e : l.act a = l.check (sOf a) 5 a.seq a.d := by
    unfold act
    have : arnd a.kind 6 = 4 := by rw [hk]; rfl
    rw [if_neg (by omega), if_neg (by omega), if_neg (by omega), if_neg (by omega), if_pos this]
  rw [e]
  unfold check
  have hf : (sOf a).frm = a.frm := rfl
  rw [hf, h.n, h.low]
  by_cases h1 : a.frm < 0 ∨ 7 ≤ a.frm ∨ (5 : Int) ≠ 5
  · rw [if_pos h1]; exact .inr ⟨(by show (_ : Int) ≠ 0; simp), rfl⟩
  · rw [if_neg h1]
    by_cases h2 : a.seq ≤ 0
    · rw [if_pos h2]; exact .inr ⟨(by show (_ : Int) ≠ 0; simp), rfl⟩
    · rw [if_neg h2]
      simp only
      split
      · left
        refine ⟨rfl, by omega, by omega, ⟨rfl, rfl, h.slots, fun i mk hm => ?_⟩, fun j => ?_, fun j => ?_⟩
        · unfold putAt at hm
          dsimp only at hm
          split at hm
          · cases hm
            rename_i e2
            rw [e2]
            exact ⟨by show (0 : Int) < a.seq; omega, by omega, by omega, rfl⟩
          · exact h.marks i mk hm
        · unfold sq putAt
          dsimp only
          by_cases e2 : (j : Int) = a.frm
          · rw [if_pos e2, if_pos e2]; rfl
          · rw [if_neg e2, if_neg e2]
        · unfold rt putAt
          dsimp only
          by_cases e2 : (j : Int) = a.frm
          · rw [if_pos e2, if_pos e2]; rfl
          · rw [if_neg e2, if_neg e2]
      · right
        split
        · exact ⟨(by show (_ : Int) ≠ 0; simp), rfl⟩
        · exact ⟨(by show (_ : Int) ≠ 0; simp), rfl⟩
end Vl
/-- Do j and k say alike? -/
def alikeB (f : Nat → Int) (h : Nat → ByteArray) (k j : Nat) : Bool := decide (0 < f k ∧ f j = f k ∧ h j = h k)
def sameN (f : Nat → Int) (h : Nat → ByteArray) (k t : Nat) : Nat := (List.range t).countP (alikeB f h k)
theorem sameN_snoc (f : Nat → Int) (h : Nat → ByteArray) (k t : Nat) : sameN f h k (t + 1) = sameN f h k t + if alikeB f h k t = true then 1 else 0 := by
  unfold sameN
  rw [List.range_succ, List.countP_append]
  simp [List.countP_cons]
theorem sameN_le (f : Nat → Int) (h : Nat → ByteArray) (k t : Nat) : sameN f h k t ≤ t := by
  unfold sameN
  have := List.countP_le_length (p := alikeB f h k) (l := List.range t)
  rwa [List.length_range] at this
def manyB (f : Nat → Int) (h : Nat → ByteArray) (k : Nat) : Bool := decide (5 ≤ sameN f h k 7)
def manyN (f : Nat → Int) (h : Nat → ByteArray) (t : Nat) : Nat := (List.range t).countP (manyB f h)
theorem manyN_snoc (f : Nat → Int) (h : Nat → ByteArray) (t : Nat) : manyN f h (t + 1) = manyN f h t + if manyB f h t = true then 1 else 0 := by
  unfold manyN
  rw [List.range_succ, List.countP_append]
  simp [List.countP_cons]
theorem manyN_le (f : Nat → Int) (h : Nat → ByteArray) (t : Nat) : manyN f h t ≤ t := by
  unfold manyN
  have := List.countP_le_length (p := manyB f h) (l := List.range t)
  rwa [List.length_range] at this
namespace Vl
theorem grp_len (l : Vl) (s : Int) (r : ByteArray) (k : Nat) : (l.grp s r k).length = (List.range k).countP (fun (i : Nat) => (l.agrees s r (i : Int)).isSome) := by
  unfold grp
  rw [List.length_filterMap_eq_countP]
theorem agrees_iff {l : Vl} (s : Int) (r : ByteArray) (j : Nat) (hs : 0 < s) : (l.agrees s r (j : Int)).isSome = decide (l.sq j = s ∧ l.rt j = r) := by
  unfold agrees sq rt
  cases hm : l.marks (j : Int) with
  | none =>
    simp only [Option.getD_none, Option.isSome_none]
    rw [decide_eq_false]
    rintro ⟨h1, _⟩
    have : (0 : Int) = s := h1
    omega
  | some y =>
    simp only [Option.getD_some]
    by_cases hc : y.seq = s ∧ y.root = r
    · rw [if_pos hc, decide_eq_true hc]; rfl
    · rw [if_neg hc, decide_eq_false hc]; rfl
theorem same_grp {l : Vl} {k : Nat} (hk : 0 < l.sq k) : sameN l.sq l.rt k 7 = (l.grp (l.sq k) (l.rt k) 7).length := by
  rw [grp_len]
  unfold sameN
  refine List.countP_congr fun j _ => ?_
  rw [agrees_iff _ _ _ hk]
  unfold alikeB
  rw [decide_eq_true_iff, decide_eq_true_iff]
  exact ⟨fun h => h.2, fun h => ⟨hk, h⟩⟩
theorem same_pos {l : Vl} {k : Nat} (h : 0 < sameN l.sq l.rt k 7) : 0 < l.sq k := by
  unfold sameN at h
  obtain ⟨j, _, hj⟩ := List.countP_pos_iff.1 h
  unfold alikeB at hj
  exact (of_decide_eq_true hj).1
/-- Two that five of seven agree on are the same. -/
theorem two_fives {l : Vl} {s s' : Int} {r r' : ByteArray} (hs : 0 < s) (hs' : 0 < s') (h1 : 5 ≤ (l.grp s r 7).length) (h2 : 5 ≤ (l.grp s' r' 7).length) : s = s' ∧ r = r' := by
  rw [grp_len] at h1 h2
  have h3 := count_two (fun (i : Nat) => (l.agrees s r (i : Int)).isSome) (fun (i : Nat) => (l.agrees s' r' (i : Int)).isSome) (List.range 7)
  have h4 : (List.range 7).countP (fun (i : Nat) => (l.agrees s r (i : Int)).isSome || (l.agrees s' r' (i : Int)).isSome) ≤ 7 := by
    have := List.countP_le_length (p := fun (i : Nat) => (l.agrees s r (i : Int)).isSome || (l.agrees s' r' (i : Int)).isSome) (l := List.range 7)
    rwa [List.length_range] at this
  have h5 : 0 < (List.range 7).countP (fun (i : Nat) => (l.agrees s r (i : Int)).isSome && (l.agrees s' r' (i : Int)).isSome) := by omega
  obtain ⟨j, _, hj⟩ := List.countP_pos_iff.1 h5
  rw [Bool.and_eq_true, agrees_iff _ _ _ hs, agrees_iff _ _ _ hs', decide_eq_true_iff, decide_eq_true_iff] at hj
  exact ⟨hj.1.1.symm.trans hj.2.1, hj.1.2.symm.trans hj.2.2⟩
theorem grp_rising {l : Vl} (h : CI l) (s : Int) (r : ByteArray) (k : Nat) : Rising (l.grp s r k) := by
  unfold Rising grp
  rw [List.pairwise_filterMap]
  refine List.pairwise_lt_range.imp fun {a b} hab m hm m' hm' => ?_
  have frm : ∀ (i : Nat) (m : Sg), l.agrees s r (i : Int) = some m → m.frm = (i : Int) := fun i m hi => by
    unfold agrees at hi
    cases hv : l.marks (i : Int) with
    | none => rw [hv] at hi; cases hi
    | some y =>
      rw [hv] at hi
      simp only at hi
      split at hi
      · cases hi; exact (h.marks _ y hv).2.2.2
      · cases hi
  rw [frm a m hm, frm b m' hm']
  omega
theorem stable_law {l : Vl} (h : CI l) {S : Int} {R : ByteArray} {L : List Sg} (hs : l.StableIs S R L) :
    (∀ k, k < 7 → manyB l.sq l.rt k = true → l.sq k = S ∧ l.rt k = R) ∧ ((manyN l.sq l.rt 7 = 0 ∧ S = 0 ∧ L.length = 0) ∨ (0 < manyN l.sq l.rt 7 ∧ S ≠ 0 ∧ L.length = 5)) ∧ Rising L := by
  have hn : l.n.toNat = 7 := by rw [h.n]; rfl
  have hq : l.quorum = 5 := by unfold Vl.quorum; rw [h.n]; rfl
  rcases hs with ⟨rfl, rfl, rfl, h4⟩ | ⟨i, mk, h1, h2, h3, rfl, rfl, rfl⟩
  · have none_ : ∀ k, k < 7 → manyB l.sq l.rt k = false := fun k _ => by
      unfold manyB
      rw [decide_eq_false]
      intro h5
      have hp := same_pos (l := l) (k := k) (by omega)
      rw [same_grp hp] at h5
      cases hm : l.marks (k : Int) with
      | none => unfold sq at hp; rw [hm] at hp; exact absurd hp (by decide)
      | some mk =>
        have e1 : l.sq k = mk.seq := by unfold sq; rw [hm]; rfl
        have e2 : l.rt k = mk.root := by unfold rt; rw [hm]; rfl
        have := h4 k mk hm (by rw [h.low, ← e1]; exact hp)
        rw [hn, hq, ← e1, ← e2] at this
        omega
    refine ⟨(fun k hk hm => by rw [none_ k hk] at hm; cases hm), .inl ⟨?_, rfl, rfl⟩, List.Pairwise.nil⟩
    unfold manyN
    rw [List.countP_eq_zero]
    intro k hk
    rw [List.mem_range] at hk
    rw [none_ k hk]; decide
  · rw [hn, hq] at h3
    rw [h.low] at h2
    have h3' : 5 ≤ (l.grp mk.seq mk.root 7).length := by omega
    rw [hn, hq, show (5 : Int).toNat = 5 from rfl]
    refine ⟨fun k _ hm => ?_, .inr ⟨?_, by omega, by rw [List.length_take]; omega⟩, (grp_rising h _ _ _).sublist (List.take_sublist _ _)⟩
    · have h5 : 5 ≤ sameN l.sq l.rt k 7 := of_decide_eq_true hm
      have hp := same_pos (l := l) (k := k) (by omega)
      rw [same_grp hp] at h5
      exact two_fives hp h2 h5 h3'
    · obtain ⟨m1, m2, m3, _⟩ := h.marks i mk h1
      obtain ⟨j, rfl⟩ : ∃ j : Nat, i = (j : Int) := ⟨i.toNat, by omega⟩
      have e1 : l.sq j = mk.seq := by unfold sq; rw [h1]; rfl
      have e2 : l.rt j = mk.root := by unfold rt; rw [h1]; rfl
      unfold manyN
      rw [List.countP_pos_iff]
      refine ⟨j, by rw [List.mem_range]; omega, decide_eq_true ?_⟩
      rw [same_grp (by rw [e1]; exact h2), e1, e2]
      exact h3'
end Vl
end Go.Proofs.Ytedndjbhgbdpoaa
