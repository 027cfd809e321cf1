/- What is prepared or committed stays so until a higher view or a cut: the plain law. -/
import Derived.Test.YtedndjbhgbdpoaaVlN
namespace Go.Proofs.Ytedndjbhgbdpoaa
namespace Vl
/-- All that agrees in l agrees in l'. -/
structure Stays (l l' : Vl) : Prop where
  n : l'.n = l.n
  low : l'.low = l.low
  view : l'.view = l.view
  votes : ∀ s j i, ((l.slot s).agreeing j i).isSome = true → ((l'.slot s).agreeing j i).isSome = true
theorem Stays.refl (l : Vl) : Stays l l := ⟨rfl, rfl, rfl, fun _ _ _ h => h⟩
theorem Stays.trans {a b c : Vl} (h : Stays a b) (h' : Stays b c) : Stays a c := ⟨h'.n.trans h.n, h'.low.trans h.low, h'.view.trans h.view, fun s j i x => h'.votes s j i (h.votes s j i x)⟩
theorem agree_len (s : Slot) (j n : Nat) : (s.agree j n).length = (List.range n).countP (fun (i : Nat) => (s.agreeing j (i : Int)).isSome) := by
  unfold Slot.agree
  rw [List.length_filterMap_eq_countP]
theorem agree_mono {s s' : Slot} {j n : Nat} (h : ∀ i, (s.agreeing j i).isSome = true → (s'.agreeing j i).isSome = true) : (s.agree j n).length ≤ (s'.agree j n).length := by
  rw [agree_len, agree_len]
  exact List.countP_mono_left fun i _ hi => h _ hi
theorem Stays.agree {l l' : Vl} (h : Stays l l') (s : Int) (j : Nat) : (l.agree s j).length ≤ (l'.agree s j).length := by
  unfold Vl.agree
  rw [h.n]
  exact agree_mono fun i hi => h.votes s j i hi
theorem Stays.quorum {l l' : Vl} (h : Stays l l') : l'.quorum = l.quorum := by unfold Vl.quorum; rw [h.n]
theorem Stays.within {l l' : Vl} (h : Stays l l') (s : Int) : l'.within s ↔ l.within s := by unfold Vl.within; rw [h.low]
theorem Stays.prepared {l l' : Vl} (h : Stays l l') {s : Int} (hp : l.prepared s = true) : l'.prepared s = true := by
  unfold Vl.prepared at *
  rw [decide_eq_true_iff] at *
  have := h.agree s 0
  exact ⟨(h.within s).2 hp.1, by rw [h.quorum]; omega⟩
theorem Stays.committed {l l' : Vl} (h : Stays l l') {s : Int} (hp : l.committed s = true) : l'.committed s = true := by
  unfold Vl.committed at *
  rw [Bool.and_eq_true, decide_eq_true_iff] at *
  have := h.agree s 1
  exact ⟨h.prepared hp.1, by rw [h.quorum]; omega⟩
theorem committed_prepared {l : Vl} {s : Int} (hp : l.committed s = true) : l.prepared s = true := by
  unfold Vl.committed at hp
  rw [Bool.and_eq_true] at hp
  exact hp.1
theorem put_slot (l : Vl) (k : Nat) (x : Slot) (s : Int) : (l.put k x).slot s = if ix s = k then x else l.slot s := rfl
theorem keep_agreeing (l : Vl) (seq s : Int) (j : Nat) (i : Int) : ((l.keep seq).slot s).agreeing j i = (l.slot s).agreeing j i := by
  unfold keep
  split
  · rfl
  · rw [put_slot]
    split
    · rename_i h
      unfold Slot.agreeing Vl.slot
      rw [h]
    · rfl
theorem keep_stays (l : Vl) (seq : Int) : Stays l (l.keep seq) := ⟨keep_n l seq, by unfold keep; split <;> rfl, by unfold keep; split <;> rfl, fun s j i h => by rw [keep_agreeing]; exact h⟩
theorem put_stays (l : Vl) (seq : Int) (x : Slot) (h : ∀ j i, ((l.slot seq).agreeing j i).isSome = true → (x.agreeing j i).isSome = true) : Stays l (l.put (ix seq) x) := by
  refine ⟨rfl, rfl, rfl, fun s j i hs => ?_⟩
  rw [put_slot]
  split
  · rename_i e
    refine h j i ?_
    unfold Vl.slot at *
    rw [← e]; exact hs
  · exact hs
theorem propose_stays (l : Vl) (v s : Int) (d b : ByteArray) : Stays l (l.propose v s d b).1 := by
  unfold propose
  split
  · exact Stays.refl l
  split
  · exact Stays.refl l
  split
  · rename_i hf
    refine (put_stays l s _ fun j i h => ?_).trans (keep_stays _ _)
    unfold Slot.agreeing at h
    split at h
    · rw [hf, if_neg (by simp)] at h; cases h
    · cases h
  · split <;> exact Stays.refl l
theorem vote_stays (l : Vl) (m : Sg) (kk v s : Int) (d : ByteArray) : Stays l (l.vote m kk v s d).1 := by
  unfold vote
  split
  · exact Stays.refl l
  split
  · exact Stays.refl l
  split
  · split <;> exact Stays.refl l
  · rename_i hv
    refine (put_stays l s _ fun j i h => ?_).trans (keep_stays _ _)
    unfold Slot.agreeing at h ⊢
    unfold Slot.vote putAt
    simp only
    by_cases e : j = (kk - 3).toNat
    · subst e
      rw [if_pos rfl]
      by_cases e2 : i = m.frm
      · subst e2
        rw [hv] at h; cases h
      · simp only [if_neg e2]; exact h
    · rw [if_neg e]; exact h
theorem check_stays (l : Vl) (m : Sg) (kk s : Int) (d : ByteArray) : Stays l (l.check m kk s d).1 := by
  unfold check
  split
  · exact Stays.refl l
  split
  · exact Stays.refl l
  simp only
  split
  · exact ⟨rfl, rfl, rfl, fun _ _ _ h => h⟩
  · split <;> exact Stays.refl l
theorem act_stays (l : Vl) (a : VAct) (h0 : arnd a.kind 6 ≠ 0) (h5 : arnd a.kind 6 ≠ 5) : Stays l (l.act a).1 := by
  have := arnd_lt a.kind (below := 6) (by omega)
  unfold act
  rw [if_neg h0]
  split
  · exact propose_stays _ _ _ _ _
  split
  · exact vote_stays _ _ _ _ _ _
  split
  · exact vote_stays _ _ _ _ _ _
  split
  · exact check_stays _ _ _ _ _
  · omega
/-- A call, but for entering a view and a cut. -/
def on (l : Vl) (a : VAct) : Vl := if arnd a.kind 6 = 0 ∨ arnd a.kind 6 = 5 then l else (l.act a).1
def ons (l : Vl) (Z : Nat → VAct) : Nat → Vl
  | 0 => l
  | i + 1 => (ons l Z i).on (Z i)
theorem on_stays (l : Vl) (a : VAct) : Stays l (l.on a) := by
  unfold on
  split
  · exact Stays.refl l
  · rename_i h
    exact act_stays l a (fun e => h (.inl e)) (fun e => h (.inr e))
theorem ons_stays (l : Vl) (Z : Nat → VAct) (i : Nat) : Stays l (l.ons Z i) := by
  induction i with
  | zero => exact Stays.refl l
  | succ i ih => exact ih.trans (on_stays _ _)
end Vl
end Go.Proofs.Ytedndjbhgbdpoaa
