/- What always holds of the slots of a log that calls have turned, and what a cut leaves: the plain laws. -/
import Derived.Test.YtedndjbhgbdpoaaVlS
namespace Go.Proofs.Ytedndjbhgbdpoaa
def Rising (L : List Sg) : Prop := L.Pairwise fun a b => a.frm < b.frm
structure KSlot (n : Int) (s : Int) (x : Slot) : Prop where
  has : x.has = true → x.digest ≠ noText
  votes : ∀ j i v, x.votes j i = some v → v.m.frm = i ∧ 0 ≤ i ∧ i < n
  kept : x.kept.kind ≠ 0 → x.kept.seq = s ∧ x.kept.digest ≠ noText ∧ Rising x.kept.list ∧ ∀ m, m ∈ x.kept.list → 0 ≤ m.frm ∧ m.frm < n
theorem agreeing_some {x : Slot} {j : Nat} {i : Int} {m : Sg} (h : x.agreeing j i = some m) : x.has = true ∧ ∃ v, x.votes j i = some v ∧ v.m = m := by
  unfold Slot.agreeing at h
  split at h
  · rename_i v hv
    split at h
    · rename_i hc
      cases h
      exact ⟨hc.1, v, hv, rfl⟩
    · cases h
  · cases h
theorem KSlot.frm {n s : Int} {x : Slot} (h : KSlot n s x) {j : Nat} {i : Int} {m : Sg} (hm : x.agreeing j i = some m) : m.frm = i ∧ 0 ≤ i ∧ i < n := by
  obtain ⟨_, v, h1, rfl⟩ := agreeing_some hm
  exact h.votes j i v h1
theorem KSlot.rising {n s : Int} {x : Slot} (h : KSlot n s x) (j k : Nat) : Rising (x.agree j k) := by
  unfold Rising Slot.agree
  rw [List.pairwise_filterMap]
  refine List.pairwise_lt_range.imp fun {a b} hab m hm m' hm' => ?_
  rw [(h.frm hm).1, (h.frm hm').1]
  omega
theorem KSlot.mem {n s : Int} {x : Slot} (h : KSlot n s x) {j k : Nat} {m : Sg} (hm : m ∈ x.agree j k) : 0 ≤ m.frm ∧ m.frm < n := by
  unfold Slot.agree at hm
  obtain ⟨i, _, hi⟩ := List.mem_filterMap.1 hm
  obtain ⟨h1, h2, h3⟩ := h.frm hi
  rw [h1]; exact ⟨h2, h3⟩
theorem agree_has {x : Slot} {j k : Nat} (h : 0 < (x.agree j k).length) : x.has = true := by
  obtain ⟨m, hm⟩ := List.exists_mem_of_length_pos h
  unfold Slot.agree at hm
  obtain ⟨i, _, hi⟩ := List.mem_filterMap.1 hm
  exact (agreeing_some hi).1
theorem KSlot.none (n s : Int) : KSlot n s Slot.none := ⟨(fun h => by cases h), (fun _ _ _ h => by cases h), fun h => absurd rfl h⟩
theorem ix_ne {l : Vl} {s t : Int} (hs : l.within s) (ht : l.within t) (h : s ≠ t) : ix s ≠ ix t := by
  unfold Vl.within at hs ht
  unfold ix
  omega
namespace Vl
def KInv (l : Vl) : Prop := ∀ s, l.within s → KSlot l.n s (l.slot s)
theorem fresh_inv (n : Int) : (fresh n).KInv := fun s _ => KSlot.none n s
theorem put_inv {l : Vl} (h : l.KInv) {seq : Int} (hw : l.within seq) {x : Slot} (hx : KSlot l.n seq x) : (l.put (ix seq) x).KInv := by
  intro s hs
  have hs' : l.within s := hs
  rw [put_slot]
  by_cases e : s = seq
  · subst e
    rw [if_pos rfl]; exact hx
  · rw [if_neg (ix_ne hs' hw e)]; exact h s hs'
theorem keep_inv {l : Vl} (ho : l.Ok) (h : l.KInv) {seq : Int} (hw : l.within seq) : (l.keep seq).KInv := by
  unfold keep
  split
  · exact h
  · rename_i hn
    refine put_inv h hw ?_
    have hs := h seq hw
    have hq : 0 < l.quorum := by
      have := ho.n
      unfold Vl.quorum
      omega
    have hlen : 0 < (l.agree seq 0).length := by omega
    refine ⟨hs.has, hs.votes, fun _ => ⟨rfl, hs.has (agree_has hlen), ?_, fun m hm => hs.mem (List.mem_of_mem_take hm)⟩⟩
    exact (hs.rising 0 l.n.toNat).sublist (List.take_sublist _ _)
theorem propose_inv {l : Vl} (ho : l.Ok) (h : l.KInv) (v s : Int) (d b : ByteArray) : (l.propose v s d b).1.KInv := by
  unfold propose
  split
  · exact h
  rename_i hd
  split
  · exact h
  rename_i hv
  split
  · have hw : l.within s := Classical.not_not.1 fun e => hv (.inr e)
    have hs := h s hw
    have h1 : KSlot l.n s { l.slot s with has := true, digest := d, batch := b } := ⟨fun _ => hd, hs.votes, hs.kept⟩
    refine keep_inv ?_ (put_inv h hw h1) hw
    exact Vl.put_ok ho (ho.votes _) (ho.kept _)
  · split <;> exact h
theorem vote_inv {l : Vl} (ho : l.Ok) (h : l.KInv) (m : Sg) (kk v s : Int) (d : ByteArray) : (l.vote m kk v s d).1.KInv := by
  unfold vote
  split
  · exact h
  rename_i hm
  split
  · exact h
  rename_i hv
  split
  · split <;> exact h
  · have hw : l.within s := Classical.not_not.1 fun e => hv (.inr e)
    have hs := h s hw
    have h0 : 0 ≤ m.frm ∧ m.frm < l.n := by omega
    have hvo : ∀ j i v, ((l.slot s).vote (kk - 3).toNat m.frm ⟨m, d⟩).votes j i = some v → v.m.frm = i ∧ 0 ≤ i ∧ i < l.n := by
      intro j i v hv
      unfold Slot.vote putAt at hv
      simp only at hv
      split at hv
      · dsimp only at hv
        split at hv
        · rename_i e
          cases hv
          rw [e]; exact ⟨rfl, h0⟩
        · exact hs.votes _ i v hv
      · exact hs.votes j i v hv
    refine keep_inv ?_ (put_inv h hw (x := (l.slot s).vote (kk - 3).toNat m.frm ⟨m, d⟩) ⟨hs.has, hvo, hs.kept⟩) hw
    refine Vl.put_ok ho (fun j i hne => ?_) (ho.kept _)
    obtain ⟨v, hv⟩ := Option.ne_none_iff_exists'.1 hne
    exact (hvo j i v hv).2
theorem enter_inv {l : Vl} (h : l.KInv) (v : Int) : (l.enter v).1.KInv := by
  unfold enter
  split
  · exact h
  · intro s hs
    have hs' : l.within s := hs
    have := h s hs'
    show KSlot l.n s (if ix s < 8 then { Slot.none with kept := (l.slots (ix s)).kept } else l.slots (ix s))
    rw [if_pos (ix_lt s)]
    exact ⟨(fun h => by cases h), (fun _ _ _ h => by cases h), this.kept⟩
theorem check_inv {l : Vl} (h : l.KInv) (m : Sg) (kk s : Int) (d : ByteArray) : (l.check m kk s d).1.KInv := by
  unfold check
  split
  · exact h
  split
  · exact h
  simp only
  split
  · exact h
  · split <;> exact h
/-- The slots that a cut leaves. -/
theorem wiped_slot (l : Vl) {seq : Int} (hs : l.low < seq) {s : Int} (h1 : seq < s) (h2 : s ≤ seq + 8) : (l.wiped (min 8 (seq - l.low).toNat)).slots (ix s) = if s ≤ l.low + 8 then l.slots (ix s) else Slot.none := by
  unfold wiped
  simp only
  by_cases h : s ≤ l.low + 8
  · rw [if_pos h, if_neg]
    simp only [List.any_eq_true, not_exists, List.mem_range]
    rintro j ⟨hj, he⟩
    have he2 : ix (l.low + 1 + (j : Int)) = ix s := by simpa using he
    unfold ix at he2
    omega
  · rw [if_neg h, if_pos]
    rw [List.any_eq_true]
    refine ⟨((s - l.low - 1) % 8).toNat, ?_, ?_⟩
    · rw [List.mem_range]; omega
    · have : ix (l.low + 1 + ((((s - l.low - 1) % 8).toNat : Nat) : Int)) = ix s := by unfold ix; omega
      simpa using this
theorem cut_inv {l : Vl} (h : l.KInv) (seq : Int) : (l.cut seq).1.KInv := by
  unfold cut
  split
  · exact h
  · rename_i hc
    intro s hs
    have hs' : seq < s ∧ s ≤ seq + 8 := hs
    show KSlot l.n s ((l.wiped (min 8 (seq - l.low).toNat)).slots (ix s))
    rw [wiped_slot l (by omega) hs'.1 hs'.2]
    split
    · exact h s ⟨by omega, by assumption⟩
    · exact KSlot.none _ _
theorem vote_ok {l : Vl} (ho : l.Ok) (m : Sg) (kk v s : Int) (d : ByteArray) : (l.vote m kk v s d).1.Ok := by
  unfold vote
  split
  · exact ho
  rename_i hm
  split
  · exact ho
  split
  · split <;> exact ho
  · show ((l.put (ix s) ((l.slot s).vote (kk - 3).toNat m.frm ⟨m, d⟩)).keep s).Ok
    refine Vl.keep_ok (Vl.put_ok (k := ix s) (s := (l.slot s).vote (kk - 3).toNat m.frm ⟨m, d⟩) ho (fun j i hne => ?_) (ho.kept (ix s))) s
    unfold Slot.vote putAt at hne
    simp only at hne
    split at hne
    · dsimp only at hne
      split at hne
      · omega
      · exact ho.votes _ _ _ hne
    · exact ho.votes _ _ _ hne
theorem propose_ok {l : Vl} (ho : l.Ok) (v s : Int) (d b : ByteArray) : (l.propose v s d b).1.Ok := by
  unfold propose
  split
  · exact ho
  split
  · exact ho
  split
  · exact Vl.keep_ok (Vl.put_ok (k := ix s) (s := { l.slot s with has := true, digest := d, batch := b }) ho (ho.votes (ix s)) (ho.kept (ix s))) s
  · split <;> exact ho
theorem enter_ok {l : Vl} (ho : l.Ok) (v : Int) : (l.enter v).1.Ok := by
  unfold enter
  split
  · exact ho
  · exact entering_ok ho (by omega) (by omega) 8
theorem check_ok {l : Vl} (ho : l.Ok) (m : Sg) (kk s : Int) (d : ByteArray) : (l.check m kk s d).1.Ok := by
  unfold check
  split
  · exact ho
  rename_i hm
  split
  · exact ho
  simp only
  split
  · refine ⟨ho.n, ho.view, ho.low, ho.votes, fun i hi => ?_, ho.kept⟩
    unfold putAt at hi
    dsimp only at hi
    show (0 : Int) ≤ i ∧ i < l.n
    split at hi
    · omega
    · exact ho.marks i hi
  · split <;> exact ho
theorem act_ok {l : Vl} (ho : l.Ok) (a : VAct) : (l.act a).1.Ok := by
  unfold act
  split
  · exact enter_ok ho _
  split
  · exact propose_ok ho _ _ _ _
  split
  · exact vote_ok ho _ _ _ _ _
  split
  · exact vote_ok ho _ _ _ _ _
  split
  · exact check_ok ho _ _ _ _
  · unfold cut; split
    · exact ho
    · have h1 := Vl.wiped_ok ho (min 8 (a.seq - l.low).toNat)
      have h2 := ho.low
      exact ⟨h1.n, h1.view, ⟨by show (0 : Int) ≤ a.seq; omega, by show a.seq ≤ 1073741824; omega⟩, h1.votes, h1.marks, h1.kept⟩
theorem act_inv {l : Vl} (ho : l.Ok) (h : l.KInv) (a : VAct) : (l.act a).1.KInv := by
  unfold act
  split
  · exact enter_inv h _
  split
  · exact propose_inv ho h _ _ _ _
  split
  · exact vote_inv ho h _ _ _ _ _
  split
  · exact vote_inv ho h _ _ _ _ _
  split
  · exact check_inv h _ _ _ _
  · exact cut_inv h _
theorem acts_inv {l : Vl} (ho : l.Ok) (h : l.KInv) (Z : Nat → VAct) (i : Nat) : (l.acts Z i).Ok ∧ (l.acts Z i).KInv := by
  induction i with
  | zero => exact ⟨ho, h⟩
  | succ i ih => exact ⟨act_ok ih.1 _, act_inv ih.1 ih.2 _⟩
theorem seven_inv (Z : Nat → VAct) (i : Nat) : (seven.acts Z i).KInv := (acts_inv (Vl.fresh_ok (.inr (.inl rfl))) (fresh_inv 7) Z i).2
end Vl
end Go.Proofs.Ytedndjbhgbdpoaa
