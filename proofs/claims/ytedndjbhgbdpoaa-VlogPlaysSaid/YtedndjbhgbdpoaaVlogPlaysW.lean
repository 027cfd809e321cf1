/- The plain law of VlogPlays, New and Cut of the reference, slot, like, told, and the walk. -/
import Derived.Test.YtedndjbhgbdpoaaRlF
import Derived.Test.YtedndjbhgbdpoaaRlU
import Derived.Test.YtedndjbhgbdpoaaRlS
import Derived.Test.YtedndjbhgbdpoaaRlE
import Derived.Test.YtedndjbhgbdpoaaBegun
namespace Go.Proofs.Ytedndjbhgbdpoaa
theorem count_two {α : Type} (p q : α → Bool) : ∀ L : List α, L.countP p + L.countP q = L.countP (fun x => p x || q x) + L.countP (fun x => p x && q x)
  | [] => rfl
  | x :: L => by
    have := count_two p q L
    simp only [List.countP_cons]
    cases p x <;> cases q x <;> simp <;> omega
set_option linter.unusedSimpArgs false
def Rl.act (l : Rl) (a : VAct) : Rl × Int :=
  if arnd a.kind 6 = 0 then l.enter a.view else if arnd a.kind 6 = 1 then l.propose a.view a.seq a.d a.t else if arnd a.kind 6 = 2 then l.vote (sOf a) 3 a.view a.seq a.d
  else if arnd a.kind 6 = 3 then l.vote (sOf a) 4 a.view a.seq a.d else if arnd a.kind 6 = 4 then l.check (sOf a) 5 a.seq a.d else l.cut a.seq
theorem Pair.act {x : Vl} {y : Rl} (h : Pair x y) (ho : x.Ok) (hI : x.KInv) (a : VAct) : (y.act a).2 = (x.act a).2 ∧ Pair (x.act a).1 (y.act a).1 := by
  unfold Rl.act Vl.act
  by_cases c0 : arnd a.kind 6 = 0
  · rw [if_pos c0, if_pos c0]; exact h.enter _
  rw [if_neg c0, if_neg c0]
  by_cases c1 : arnd a.kind 6 = 1
  · rw [if_pos c1, if_pos c1]; exact h.propose ho hI _ _ _ _
  rw [if_neg c1, if_neg c1]
  by_cases c2 : arnd a.kind 6 = 2
  · rw [if_pos c2, if_pos c2]; exact h.vote ho hI _ _ _ _ _
  rw [if_neg c2, if_neg c2]
  by_cases c3 : arnd a.kind 6 = 3
  · rw [if_pos c3, if_pos c3]; exact h.vote ho hI _ _ _ _ _
  rw [if_neg c3, if_neg c3]
  by_cases c4 : arnd a.kind 6 = 4
  · rw [if_pos c4, if_pos c4]; exact h.check ho.low.1 _ _ _ _
  · rw [if_neg c4, if_neg c4]; exact h.cut hI _
theorem kept_le8 (x : Vl) : x.kept.length ≤ 8 := by
  unfold Vl.kept
  have := List.length_filterMap_le (fun (i : Nat) => let b := (x.slot (x.low + 1 + (i : Int))).kept; if b.kind ≠ 0 then some b else Option.none) (List.range 8)
  rwa [List.length_range] at this
namespace Rl
/-- Votes are those of members; the items are few. -/
def Few (l : Rl) (i : Nat) : Prop := l.L.length ≤ i ∧ ∀ it ∈ l.L, it.kind = 3 ∨ it.kind = 4 → 0 ≤ it.frm ∧ it.frm < l.n
theorem taken_few {l : Rl} {i : Nat} (h : l.Few i) (x : It) (hx : x.kind = 3 ∨ x.kind = 4 → 0 ≤ x.frm ∧ x.frm < l.n) : (l.taken x).Few (i + 1) ∧ (l.taken x).n = l.n := by
  have hl : (l.taken x).L = l.L ++ [x] ∧ (l.taken x).n = l.n := by
    unfold taken
    simp only
    split
    · exact ⟨rfl, rfl⟩
    · split <;> exact ⟨rfl, rfl⟩
  refine ⟨⟨by rw [hl.1, List.length_append]; have := h.1; simpa using this, fun it hit hk => ?_⟩, hl.2⟩
  rw [hl.2]
  rw [hl.1] at hit
  rcases List.mem_append.1 hit with hit | hit
  · exact h.2 it hit hk
  · rw [List.mem_singleton.1 hit] at hk ⊢; exact hx hk
theorem Few.more {l : Rl} {i : Nat} (h : l.Few i) : l.Few (i + 1) := ⟨Nat.le_succ_of_le h.1, h.2⟩
theorem act_few {l : Rl} {i : Nat} (h : l.Few i) (a : VAct) : (l.act a).1.Few (i + 1) ∧ (l.act a).1.n = l.n := by
  have hv : ∀ kk, (l.vote (sOf a) kk a.view a.seq a.d).1.Few (i + 1) ∧ (l.vote (sOf a) kk a.view a.seq a.d).1.n = l.n := fun kk => by
    unfold vote
    split
    · exact ⟨h.more, rfl⟩
    rename_i hb
    split
    · exact ⟨h.more, rfl⟩
    split
    · split <;> exact ⟨h.more, rfl⟩
    · exact taken_few h _ fun _ => by show 0 ≤ (sOf a).frm ∧ (sOf a).frm < l.n; omega
  unfold act
  split
  · unfold enter; split <;> exact ⟨h.more, rfl⟩
  split
  · unfold propose
    split
    · exact ⟨h.more, rfl⟩
    split
    · exact ⟨h.more, rfl⟩
    split
    · split <;> exact ⟨h.more, rfl⟩
    · exact taken_few h _ fun hk => by
        exfalso
        rcases hk with hk | hk
        · have hk2 : (2 : Int) = 3 := hk
          omega
        · have hk2 : (2 : Int) = 4 := hk
          omega
  split
  · exact hv 3
  split
  · exact hv 4
  split
  · unfold check
    split
    · exact ⟨h.more, rfl⟩
    split
    · exact ⟨h.more, rfl⟩
    have ht : ∀ m seq d, (l.taken ⟨5, m, 0, seq, d, noText, sOf a⟩).Few (i + 1) ∧ (l.taken ⟨5, m, 0, seq, d, noText, sOf a⟩).n = l.n := fun m seq d => taken_few h _ fun hk => by
      exfalso
      rcases hk with hk | hk
      · have hk2 : (5 : Int) = 3 := hk
        omega
      · have hk2 : (5 : Int) = 4 := hk
        omega
    split
    · split
      · exact ⟨h.more, rfl⟩
      · split
        · exact ⟨h.more, rfl⟩
        · exact ht _ _ _
    · exact ht _ _ _
  · unfold cut; split <;> exact ⟨h.more, rfl⟩
end Rl
/-- A slot without a proposal is bare. -/
def Vl.Bare (l : Vl) : Prop := ∀ k, (l.slots k).has = false → (l.slots k).digest = noText ∧ (l.slots k).batch = noText
namespace Vl
theorem put_bare {l : Vl} (h : l.Bare) (k : Nat) {s : Slot} (hs : s.has = false → s.digest = noText ∧ s.batch = noText) : (l.put k s).Bare := fun i hi => by
  by_cases e : i = k
  · have e2 : (l.put k s).slots i = s := if_pos e
    rw [e2] at hi ⊢; exact hs hi
  · have e2 : (l.put k s).slots i = l.slots i := if_neg e
    rw [e2] at hi ⊢; exact h i hi
theorem keep_bare {l : Vl} (h : l.Bare) (seq : Int) : (l.keep seq).Bare := by
  unfold keep
  split
  · exact h
  · exact put_bare h _ (h (ix seq))
theorem fresh_bare (n : Int) : (fresh n).Bare := fun _ _ => ⟨rfl, rfl⟩
theorem enter_bare {l : Vl} (h : l.Bare) (v : Int) : (l.enter v).1.Bare := by
  unfold enter
  split
  · exact h
  · intro k hk
    have hk2 : (if k < 8 then ({ Slot.none with kept := (l.slots k).kept } : Slot) else l.slots k).has = false := hk
    show (if k < 8 then ({ Slot.none with kept := (l.slots k).kept } : Slot) else l.slots k).digest = noText ∧ (if k < 8 then ({ Slot.none with kept := (l.slots k).kept } : Slot) else l.slots k).batch = noText
    by_cases c : k < 8
    · rw [if_pos c]; exact ⟨rfl, rfl⟩
    · rw [if_neg c] at hk2 ⊢; exact h k hk2
theorem cut_bare {l : Vl} (h : l.Bare) (s : Int) : (l.cut s).1.Bare := by
  unfold cut
  split
  · exact h
  · intro k hk
    have hk2 : ((l.wiped (min 8 (s - l.low).toNat)).slots k).has = false := hk
    show ((l.wiped (min 8 (s - l.low).toNat)).slots k).digest = noText ∧ ((l.wiped (min 8 (s - l.low).toNat)).slots k).batch = noText
    generalize min 8 (s - l.low).toNat = q at hk2 ⊢
    have e : (l.wiped q).slots k = if (List.range q).any (fun (j : Nat) => ix (l.low + 1 + (j : Int)) == k) = true then Slot.none else l.slots k := rfl
    rw [e] at hk2 ⊢
    by_cases c : (List.range q).any (fun (j : Nat) => ix (l.low + 1 + (j : Int)) == k) = true
    · rw [if_pos c]; exact ⟨rfl, rfl⟩
    · rw [if_neg c] at hk2 ⊢; exact h k hk2
theorem act_bare {l : Vl} (h : l.Bare) (a : VAct) : (l.act a).1.Bare := by
  have hv : ∀ kk, (l.vote (sOf a) kk a.view a.seq a.d).1.Bare := fun kk => by
    unfold vote
    split
    · exact h
    split
    · exact h
    split
    · split <;> exact h
    · exact keep_bare (put_bare (s := (l.slot a.seq).vote (kk - 3).toNat (sOf a).frm ⟨sOf a, a.d⟩) h (ix a.seq) (fun hh => h (ix a.seq) hh)) a.seq
  unfold act
  split
  · exact enter_bare h _
  split
  · unfold propose
    split
    · exact h
    split
    · exact h
    split
    · exact keep_bare (put_bare (s := { l.slot a.seq with has := true, digest := a.d, batch := a.t }) h (ix a.seq) fun hh => by cases hh) a.seq
    · split <;> exact h
  split
  · exact hv 3
  split
  · exact hv 4
  split
  · unfold check
    split
    · exact h
    split
    · exact h
    simp only
    split
    · exact h
    · split <;> exact h
  · exact cut_bare h _
end Vl
namespace Pair
variable {x : Vl} {y : Rl}
theorem tells_proposal (h : Pair x y) (hb : x.Bare) (seq : Int) : ((y.proposal seq).getD It.none).digest = (x.proposal seq).1 ∧ ((y.proposal seq).getD It.none).batch = (x.proposal seq).2.1 ∧ (y.proposal seq).isSome = (x.proposal seq).2.2 := by
  unfold Vl.proposal
  by_cases hw : x.within seq
  · rw [if_pos hw, h.prop seq hw]
    unfold Slot.it
    by_cases c : (x.slot seq).has = true
    · rw [if_pos c]; exact ⟨rfl, rfl, c.symm⟩
    · rw [if_neg c]
      have c' : (x.slot seq).has = false := by simpa using c
      obtain ⟨h1, h2⟩ := hb (ix seq) c'
      exact ⟨h1.symm, h2.symm, c'.symm⟩
  · rw [if_neg hw]
    have e : y.proposal seq = Option.none := by
      unfold Rl.proposal
      rw [List.find?_eq_none]
      intro it _
      rw [decide_eq_false (fun hh => hw ((h.within seq).1 hh))]
      simp
    rw [e]; exact ⟨rfl, rfl, rfl⟩
theorem agree_off (h : Pair x y) {seq : Int} (hw : ¬ x.within seq) (kind : Int) : y.agree kind seq = [] := by
  unfold Rl.agree
  have e : y.proposal seq = Option.none := by
    unfold Rl.proposal
    rw [List.find?_eq_none]
    intro it _
    rw [decide_eq_false (fun hh => hw ((h.within seq).1 hh))]
    simp
  rw [e]
theorem tells_prepared (h : Pair x y) (ho : x.Ok) (seq : Int) : x.prepared seq = decide (y.quorum ≤ ((y.agree 3 seq).length : Int)) := by
  unfold Vl.prepared
  by_cases hw : x.within seq
  · rw [h.agree3 hw, h.quorum]
    exact decide_eq_decide.2 ⟨fun hh => hh.2, fun hh => ⟨hw, hh⟩⟩
  · rw [h.agree_off hw, h.quorum, decide_eq_false (fun hh => hw hh.1), decide_eq_false]
    have := ho.n
    unfold Vl.quorum
    simp only [List.length_nil]
    omega
theorem tells_committed (h : Pair x y) (ho : x.Ok) (seq : Int) : x.committed seq = (decide (y.quorum ≤ ((y.agree 3 seq).length : Int)) && decide (y.quorum ≤ ((y.agree 4 seq).length : Int))) := by
  unfold Vl.committed
  rw [← h.tells_prepared ho seq]
  by_cases hw : x.within seq
  · rw [h.agree4 hw, h.quorum]
  · have e : x.prepared seq = false := by unfold Vl.prepared; exact decide_eq_false (fun hh => hw hh.1)
    rw [e, Bool.false_and, Bool.false_and]
theorem tells_voted (h : Pair x y) (ho : x.Ok) {i : Nat} (hf : y.Few i) (j : Nat) (hj : j < 2) (seq frm : Int) : (y.voted (3 + (j : Int)) seq frm).map (·.m) = x.voted (3 + (j : Int)) seq frm := by
  unfold Vl.voted
  by_cases hw : x.within seq
  · rw [if_neg (fun hh => by rcases hh with hh | hh; omega; exact hh hw)]
    have ej : (3 + (j : Int) - 3).toNat = j := by omega
    rw [ej]
    by_cases hb : 0 ≤ frm ∧ frm < x.n
    · rw [h.votes j seq frm hj hw hb.1 hb.2, Option.map_map]; rfl
    · have e1 : (x.slot seq).votes j frm = Option.none := by
        by_cases e : (x.slot seq).votes j frm = Option.none
        · exact e
        · exact absurd (ho.votes _ _ _ e) hb
      have e2 : y.voted (3 + (j : Int)) seq frm = Option.none := by
        unfold Rl.voted
        rw [List.find?_eq_none]
        intro it hit
        simp only [Rl.here, Bool.and_eq_true, decide_eq_true_eq, not_and]
        intro ⟨_, ⟨hk, _⟩, _⟩ hfr
        have := hf.2 it hit (by omega)
        rw [h.n, hfr] at this
        exact hb this
      rw [e1, e2]; rfl
  · rw [if_pos (.inr hw)]
    have e2 : y.voted (3 + (j : Int)) seq frm = Option.none := by
      unfold Rl.voted
      rw [List.find?_eq_none]
      intro it _
      rw [decide_eq_false (fun hh => hw ((h.within seq).1 hh))]
      simp
    rw [e2]; rfl
theorem tells_agrees (h : Pair x y) {s : Int} {r : ByteArray} {i : Nat} (hi : (i : Int) < x.n) : y.agrees s r (i : Int) = x.agrees s r (i : Int) := by
  unfold Rl.agrees Vl.agrees
  rw [h.marks i (by omega) hi]
  cases x.marks (i : Int) with
  | none => rfl
  | some k => rfl
theorem tells_grp (h : Pair x y) (s : Int) (r : ByteArray) : y.grp s r x.n.toNat = x.grp s r x.n.toNat := by
  unfold Rl.grp Vl.grp
  refine Rl.filterMap_same fun i hi => ?_
  have := List.mem_range.1 hi
  exact h.tells_agrees (by omega)
/-- Two that a quorum agrees on are the same. -/
theorem agrees_inv {s : Int} {r : ByteArray} {i : Int} (h : (x.agrees s r i).isSome = true) : ∃ k, x.marks i = some k ∧ k.seq = s ∧ k.root = r := by
  unfold Vl.agrees at h
  cases hm : x.marks i with
  | none => rw [hm] at h; cases h
  | some k =>
    rw [hm] at h
    simp only at h
    by_cases c : k.seq = s ∧ k.root = r
    · exact ⟨k, rfl, c⟩
    · rw [if_neg c] at h; cases h
theorem two_quorums (ho : x.Ok) {s s' : Int} {r r' : ByteArray} (h1 : x.quorum ≤ ((x.grp s r x.n.toNat).length : Int)) (h2 : x.quorum ≤ ((x.grp s' r' x.n.toNat).length : Int)) : s = s' ∧ r = r' := by
  have g : ∀ s r, (x.grp s r x.n.toNat).length = (List.range x.n.toNat).countP (fun (i : Nat) => (x.agrees s r (i : Int)).isSome) := fun s r => by
    unfold Vl.grp
    rw [List.length_filterMap_eq_countP]
  rw [g] at h1 h2
  have h3 := count_two (fun (i : Nat) => (x.agrees s r (i : Int)).isSome) (fun (i : Nat) => (x.agrees s' r' (i : Int)).isSome) (List.range x.n.toNat)
  have h4 := List.countP_le_length (p := fun (i : Nat) => (x.agrees s r (i : Int)).isSome || (x.agrees s' r' (i : Int)).isSome) (l := List.range x.n.toNat)
  rw [List.length_range] at h4
  have hn := ho.n
  unfold Vl.quorum at h1 h2
  have h5 : 0 < (List.range x.n.toNat).countP (fun (i : Nat) => (x.agrees s r (i : Int)).isSome && (x.agrees s' r' (i : Int)).isSome) := by omega
  obtain ⟨j, _, hj⟩ := List.countP_pos_iff.1 h5
  rw [Bool.and_eq_true] at hj
  obtain ⟨k, e1, e2, e3⟩ := agrees_inv hj.1
  obtain ⟨k', e1', e2', e3'⟩ := agrees_inv hj.2
  rw [e1] at e1'
  cases e1'
  exact ⟨e2.symm.trans e2', e3.symm.trans e3'⟩
theorem tells_stable (h : Pair x y) (ho : x.Ok) {S S' : Int} {R R' : ByteArray} {L L' : List Sg} (hx : x.StableIs S R L) (hy : y.StAt y.n.toNat y.quorum.toNat y.n.toNat S' R' L') : S = S' ∧ R = R' ∧ L = L' := by
  rw [h.n, h.quorum] at hy
  have hq : 0 ≤ x.quorum := by
    have := ho.n
    unfold Vl.quorum
    omega
  have hn := ho.n
  rcases hx with ⟨rfl, rfl, rfl, h4⟩ | ⟨i, mk, h1, h2, h3, rfl, rfl, rfl⟩
  · rcases hy with ⟨rfl, rfl, rfl, _⟩ | ⟨j, z, g1, g2, g3, g4, rfl, rfl, rfl⟩
    · exact ⟨rfl, rfl, rfl⟩
    · exfalso
      have hm := h.marks (j : Int) (by omega) (by omega)
      rw [g2] at hm
      cases hk : x.marks (j : Int) with
      | none => rw [hk] at hm; cases hm
      | some k =>
        rw [hk] at hm
        have hz : z = Mk.it (j : Int) k := Option.some.inj hm
        subst hz
        rw [h.low] at g3
        have h5 := h4 (j : Int) k hk g3
        rw [h.tells_grp] at g4
        have g4' : x.quorum.toNat ≤ (x.grp k.seq k.root x.n.toNat).length := g4
        omega
  · have hi := ho.marks i (by rw [h1]; exact Option.some_ne_none _)
    obtain ⟨j, rfl⟩ : ∃ j : Nat, i = (j : Int) := ⟨i.toNat, by omega⟩
    have hm := h.marks (j : Int) hi.1 hi.2
    rw [h1] at hm
    rcases hy with ⟨rfl, rfl, rfl, g5⟩ | ⟨j', z, g1, g2, g3, g4, rfl, rfl, rfl⟩
    · exfalso
      have h5 := g5 j (Mk.it (j : Int) mk) (by omega) hm (by rw [h.low]; exact h2)
      rw [h.tells_grp] at h5
      have h6 : (x.grp mk.seq mk.root x.n.toNat).length < x.quorum.toNat := h5
      omega
    · rw [h.tells_grp] at g4 ⊢
      obtain ⟨e1, e2⟩ := two_quorums ho (s := mk.seq) (s' := z.seq) (r := mk.root) (r' := z.digest) h3 (by omega)
      rw [e1, e2]
      exact ⟨rfl, rfl, rfl⟩
end Pair
end Go.Proofs.Ytedndjbhgbdpoaa
namespace Go.Proofs.Ytedndjbhgbdpoaa
open Go.RowKit
set_option linter.unusedSimpArgs false
set_option linter.unusedVariables false
def goodN (n : Int) : Prop := n = 4 ∨ n = 7 ∨ n = 10 ∨ n = 13
instance (n : Int) : Decidable (goodN n) := by unfold goodN; infer_instance
theorem rnew_calls (n : Int) (w : World) : Calls Try.prog 31 #[.int .i64 n] w fun e w' => e = .returned (.tuple #[.agg #[.int .i64 n, .int .i64 0, .int .i64 0, .slice none 0 0, .slice none 0 0], .bool (decide (goodN n))]) ∧ Below w.heap.size w w' := by
  obtain ⟨z, hz⟩ : ∃ z, Hid (decide (goodN n) = z) := ⟨_, Lib.hid rfl⟩
  rw [hz.out]
  by_cases a4 : n = 4
  · subst a4
    have E : Hid (z = true) := Lib.hid (by rw [← hz.out]; decide)
    go_enter Try.func31, Try.ntmps31
    go_wp2
    (try simp only [Exit.inBlock, Exit.then])
    refine bodyPost_ret (by simp [results, Try.results31, asAddr, go_sem]; rfl) rfl ?_
    exact ⟨by rw [E.out], by repeat (first | exact Below.refl _ _ | (refine Below.setCell ?_ ?_ _; rotate_left; (try simp); rotate_left) | (refine Below.alloc ?_ (by simp) _))⟩
  have b4 : (n == 4) = false := by simpa using a4
  by_cases a7 : n = 7
  · subst a7
    have E : Hid (z = true) := Lib.hid (by rw [← hz.out]; decide)
    go_enter Try.func31, Try.ntmps31
    go_wp2
    (try simp only [Exit.inBlock, Exit.then])
    refine bodyPost_ret (by simp [results, Try.results31, asAddr, go_sem]; rfl) rfl ?_
    exact ⟨by rw [E.out], by repeat (first | exact Below.refl _ _ | (refine Below.setCell ?_ ?_ _; rotate_left; (try simp); rotate_left) | (refine Below.alloc ?_ (by simp) _))⟩
  have b7 : (n == 7) = false := by simpa using a7
  by_cases a10 : n = 10
  · subst a10
    have E : Hid (z = true) := Lib.hid (by rw [← hz.out]; decide)
    go_enter Try.func31, Try.ntmps31
    go_wp2
    (try simp only [Exit.inBlock, Exit.then])
    refine bodyPost_ret (by simp [results, Try.results31, asAddr, go_sem]; rfl) rfl ?_
    exact ⟨by rw [E.out], by repeat (first | exact Below.refl _ _ | (refine Below.setCell ?_ ?_ _; rotate_left; (try simp); rotate_left) | (refine Below.alloc ?_ (by simp) _))⟩
  have b10 : (n == 10) = false := by simpa using a10
  by_cases a13 : n = 13
  · subst a13
    have E : Hid (z = true) := Lib.hid (by rw [← hz.out]; decide)
    go_enter Try.func31, Try.ntmps31
    go_wp2
    (try simp only [Exit.inBlock, Exit.then])
    refine bodyPost_ret (by simp [results, Try.results31, asAddr, go_sem]; rfl) rfl ?_
    exact ⟨by rw [E.out], by repeat (first | exact Below.refl _ _ | (refine Below.setCell ?_ ?_ _; rotate_left; (try simp); rotate_left) | (refine Below.alloc ?_ (by simp) _))⟩
  have b13 : (n == 13) = false := by simpa using a13
  have E : Hid (z = false) := Lib.hid (by rw [← hz.out]; exact decide_eq_false (by unfold goodN; omega))
  go_enter Try.func31, Try.ntmps31
  go_wp2
  (try simp only [Exit.inBlock, Exit.then])
  refine bodyPost_ret (by simp [results, Try.results31, asAddr, go_sem]; rfl) rfl ?_
  exact ⟨by rw [E.out], by repeat (first | exact Below.refl _ _ | (refine Below.setCell ?_ ?_ _; rotate_left; (try simp); rotate_left) | (refine Below.alloc ?_ (by simp) _))⟩
namespace Rl
def above (L : List (Kb × Value)) (s : Int) : List (Kb × Value) := L.filter fun p => decide (s < p.1.seq)
theorem above_fst (L : List (Kb × Value)) (s : Int) : (above L s).map Prod.fst = (L.map Prod.fst).filter fun k => decide (s < k.seq) := by
  unfold above
  rw [List.filter_map]; rfl
theorem above_snoc (L : List (Kb × Value)) (s : Int) {i : Nat} (hi : i < L.length) : above (L.take (i + 1)) s = above (L.take i) s ++ (if s < (L.getD i kv0).1.seq then [L.getD i kv0] else []) := by
  unfold above
  rw [List.take_succ_eq_append_getElem hi, List.filter_append, List.getD_eq_getElem?_getD, List.getElem?_eq_getElem hi]
  congr 1
  simp only [Option.getD_some]
  by_cases h : s < L[i].1.seq
  · rw [if_pos h, List.filter_cons_of_pos (by simp [h])]; rfl
  · rw [if_neg h, List.filter_cons_of_neg (by simp [h])]; rfl
theorem above_le (L : List (Kb × Value)) (s : Int) (i : Nat) : (above (L.take i) s).length ≤ i := by
  unfold above
  have := List.length_filter_le (fun p : Kb × Value => decide (s < p.1.seq)) (L.take i)
  rw [List.length_take] at this
  omega
end Rl
set_option maxHeartbeats 8000000 in
theorem rcut_calls (w : World) (A B : Option Addr) (cA cB : Nat) (y : Rl) (L0 : List (Kb × Value)) (hL0 : L0.map Prod.fst = y.kept) (hk : KVRow w B L0) (hkl : y.kept.length ≤ 900) (seq : Int) :
    Calls Try.prog 48 #[.agg #[.int .i64 y.n, .int .i64 y.view, .int .i64 y.low, .slice A y.L.length cA, .slice B y.kept.length cB], .int .i64 seq] w (RTold w A B y.L L0 y.n (y.cut seq)) := by
  have HKV := Lib.hid hk
  have hkL : Hid (L0.length = y.kept.length) := Lib.hid (by rw [← hL0, List.length_map])
  have HL0 := Lib.hid hL0
  obtain ⟨m, hm⟩ : ∃ m, Hid (y.L.length = m) := ⟨_, Lib.hid rfl⟩
  obtain ⟨k, hkk⟩ : ∃ k, Hid (y.kept.length = k) := ⟨_, Lib.hid rfl⟩
  obtain ⟨n, hnn⟩ : ∃ n, Hid (y.n = n) := ⟨_, Lib.hid rfl⟩
  obtain ⟨v, hv⟩ : ∃ v, Hid (y.view = v) := ⟨_, Lib.hid rfl⟩
  obtain ⟨lo, hl⟩ : ∃ lo, Hid (y.low = lo) := ⟨_, Lib.hid rfl⟩
  rw [hkk.out] at hkL hkl
  rw [hm.out, hkk.out, hnn.out, hv.out, hl.out]
  have HE : Hid (y.cut seq = if seq ≤ lo ∨ 1073741824 < seq ∨ seq % 4 ≠ 0 then (y, 1) else ({ y with low := seq, kept := y.kept.filter fun k => decide (seq < k.seq) }, 0)) := Lib.hid (by rw [← hl.out]; rfl)
  obtain ⟨i2, hi2, hz0, hz1, hz2⟩ := info_parts info_body
  have HI2 := Lib.hid hi2
  have HZ0 := Lib.hid hz0
  have HZ1 := Lib.hid hz1
  have HZ2 := Lib.hid hz2
  clear hi2 hz0 hz1 hz2 hk hL0
  have hb0 : Hid (Below w.heap.size w ((w.alloc (.cells #[.int .i64 n, .int .i64 v, .int .i64 lo, .slice A m cA, .slice B k cB] 65)).alloc (.cells #[.int .i64 0, .int .i64 0, .int .i64 0, .slice none 0 0, .slice none 0 0] 65))) := Lib.hid (((Below.refl _ _).alloc (Nat.le_refl _) _).alloc (by simp) _)
  have B0 : Hid (Blk ((w.alloc (.cells #[.int .i64 n, .int .i64 v, .int .i64 lo, .slice A m cA, .slice B k cB] 65)).alloc (.cells #[.int .i64 0, .int .i64 0, .int .i64 0, .slice none 0 0, .slice none 0 0] 65)) w.heap.size 65 #[.int .i64 n, .int .i64 v, .int .i64 lo, .slice A m cA, .slice B k cB]) := Lib.hid ((Blk.new w 65 #[.int .i64 n, .int .i64 v, .int .i64 lo, .slice A m cA, .slice B k cB]).alloc (.cells #[.int .i64 0, .int .i64 0, .int .i64 0, .slice none 0 0, .slice none 0 0] 65))
  have B1 : Hid (Blk ((w.alloc (.cells #[.int .i64 n, .int .i64 v, .int .i64 lo, .slice A m cA, .slice B k cB] 65)).alloc (.cells #[.int .i64 0, .int .i64 0, .int .i64 0, .slice none 0 0, .slice none 0 0] 65)) (w.heap.size + 1) 65 #[.int .i64 0, .int .i64 0, .int .i64 0, .slice none 0 0, .slice none 0 0]) := Lib.hid (by have := (Blk.new (w.alloc (.cells #[.int .i64 n, .int .i64 v, .int .i64 lo, .slice A m cA, .slice B k cB] 65)) 65 #[.int .i64 0, .int .i64 0, .int .i64 0, .slice none 0 0, .slice none 0 0]); simpa using this)
  go_enter Try.func48, Try.ntmps48
  go_upto_region 1 with (fail)
  obtain ⟨g1, hg1⟩ : ∃ g1, w.heap.size = g1 := ⟨_, rfl⟩
  have HG := Lib.hid hg1
  rw [hg1] at B0 B1 ⊢
  clear hg1
  generalize World.alloc (World.alloc w _) _ = wy at hb0 B0 B1 ⊢
  have HX : Hid (∀ wx : World, Below wy.heap.size wy wx → (wx.cell? ⟨g1, 0, none⟩ = some (.int .i64 n) ∧ wx.cell? ⟨g1, 1, none⟩ = some (.int .i64 v) ∧ wx.cell? ⟨g1, 2, none⟩ = some (.int .i64 lo) ∧ wx.cell? ⟨g1, 3, none⟩ = some (.slice A m cA) ∧ wx.cell? ⟨g1, 4, none⟩ = some (.slice B k cB)) ∧ (wx.cell? ⟨g1 + 1, 0, none⟩ = some (.int .i64 0) ∧ wx.cell? ⟨g1 + 1, 1, none⟩ = some (.int .i64 0) ∧ wx.cell? ⟨g1 + 1, 2, none⟩ = some (.int .i64 0) ∧ wx.cell? ⟨g1 + 1, 3, none⟩ = some (.slice none 0 0) ∧ wx.cell? ⟨g1 + 1, 4, none⟩ = some (.slice none 0 0)) ∧ (wx.frozen? ⟨g1 + 1, 0, none⟩ = false ∧ wx.frozen? ⟨g1 + 1, 1, none⟩ = false ∧ wx.frozen? ⟨g1 + 1, 2, none⟩ = false ∧ wx.frozen? ⟨g1 + 1, 3, none⟩ = false ∧ wx.frozen? ⟨g1 + 1, 4, none⟩ = false) ∧ (wx.frozen? ⟨g1, 0, none⟩ = false ∧ wx.frozen? ⟨g1, 1, none⟩ = false ∧ wx.frozen? ⟨g1, 2, none⟩ = false ∧ wx.frozen? ⟨g1, 3, none⟩ = false ∧ wx.frozen? ⟨g1, 4, none⟩ = false)) := Lib.hid fun wx hb => by
    have b0 := B0.out.below hb B0.out.lt
    have b1 := B1.out.below hb B1.out.lt
    exact ⟨⟨b0.cell 0, b0.cell 1, b0.cell 2, b0.cell 3, b0.cell 4⟩, ⟨b1.cell 0, b1.cell 1, b1.cell 2, b1.cell 3, b1.cell 4⟩, ⟨b1.frozen 0, b1.frozen 1, b1.frozen 2, b1.frozen 3, b1.frozen 4⟩, ⟨b0.frozen 0, b0.frozen 1, b0.frozen 2, b0.frozen 3, b0.frozen 4⟩⟩
  obtain ⟨⟨c0, c1, c2, c3, c4⟩, ⟨z0, z1, z2, z3, z4⟩, ⟨f0, f1, f2, f3, f4⟩, ⟨e0, e1, e2, e3, e4⟩⟩ := HX.out wy (Below.refl _ _)
  by_cases a : seq ≤ lo
  · have E : Hid (y.cut seq = (y, 1)) := Lib.hid (by rw [HE.out, if_pos (.inl a)])
    go_wp2
    (try simp only [Exit.inBlock, Exit.then])
    refine bodyPost_ret (by simp [results, Try.results48, asAddr, go_sem, z0, z1, z2, z3, z4]; rfl) rfl ?_
    have hbz := below_five (B := w.heap.size) (g := g1 + 1) (below_next hb0.out (Below.refl _ _)) (by rw [HG.out]; omega) (.int .i64 n) (.int .i64 v) (.int .i64 lo) (.slice A m cA) (.slice B k cB)
    exact rtold E.out hm.out hkk.out hv.out hl.out HL0.out hbz (Lasts.same _ _ _)
  have aB : decide (seq ≤ lo) = false := by simpa using a
  by_cases b : 1073741824 < seq
  · have E : Hid (y.cut seq = (y, 1)) := Lib.hid (by rw [HE.out, if_pos (.inr (.inl b))])
    go_wp2
    (try simp only [Exit.inBlock, Exit.then])
    refine bodyPost_ret (by simp [results, Try.results48, asAddr, go_sem, z0, z1, z2, z3, z4]; rfl) rfl ?_
    have hbz := below_five (B := w.heap.size) (g := g1 + 1) (below_next hb0.out (Below.refl _ _)) (by rw [HG.out]; omega) (.int .i64 n) (.int .i64 v) (.int .i64 lo) (.slice A m cA) (.slice B k cB)
    exact rtold E.out hm.out hkk.out hv.out hl.out HL0.out hbz (Lasts.same _ _ _)
  have bB : decide (1073741824 < seq) = false := by simpa using b
  by_cases c : seq % 4 ≠ 0
  · have E : Hid (y.cut seq = (y, 1)) := Lib.hid (by rw [HE.out, if_pos (.inr (.inr c))])
    have c4 : (seq.tmod 4 != 0) = true := by
      have : seq.tmod 4 ≠ 0 := fun e => c (by have := Int.dvd_of_tmod_eq_zero e; omega)
      simpa using this
    go_wp2
    (try simp only [Exit.inBlock, Exit.then])
    refine bodyPost_ret (by simp [results, Try.results48, asAddr, go_sem, z0, z1, z2, z3, z4]; rfl) rfl ?_
    have hbz := below_five (B := w.heap.size) (g := g1 + 1) (below_next hb0.out (Below.refl _ _)) (by rw [HG.out]; omega) (.int .i64 n) (.int .i64 v) (.int .i64 lo) (.slice A m cA) (.slice B k cB)
    exact rtold E.out hm.out hkk.out hv.out hl.out HL0.out hbz (Lasts.same _ _ _)
  have hc4 : seq.tmod 4 = 0 := Int.tmod_eq_zero_of_dvd (by omega)
  have E : Hid (y.cut seq = ({ y with low := seq, kept := (Rl.above L0 seq).map Prod.fst }, 0)) := Lib.hid (by rw [HE.out, if_neg (by omega), Rl.above_fst, HL0.out])
  clear HE
  go_upto_region 3 with (fail)
  clear c0 c1 c2 c3 c4 z0 z1 z2 z3 z4 f0 f1 f2 f3 f4 e0 e1 e2 e3 e4 hc4 aB bB c
  go_wp2
  go_loopg [6, 7] (k + 1) (fun gk s6 s7 wr => ∃ i A' c', gk = k + 1 - i ∧ i ≤ k ∧ s7 = .int .i64 (i : Int) ∧ s6 = .slice A' (Rl.above (L0.take i) seq).length c' ∧ Hid (Mine wy wr 8 (.slice A' (Rl.above (L0.take i) seq).length c') (Rl.above (L0.take i) seq).length (kvcells (Rl.above (L0.take i) seq))) ∧ Hid (Below wy.heap.size wy wr))
  case atStart => exact ⟨0, none, 0, rfl, Nat.zero_le _, rfl, rfl, Lib.hid (Mine.empty _ _ _ _), Lib.hid (Below.refl _ _)⟩
  case round =>
    obtain ⟨i, A9, c9, rfl, hi, rfl, rfl, hm9, hb⟩ := hrel
    have i0 : (0 : Int) ≤ (i : Int) := by omega
    obtain ⟨⟨c0, c1, c2, c3, c4⟩, ⟨z0, z1, z2, z3, z4⟩, ⟨f0, f1, f2, f3, f4⟩, ⟨e0, e1, e2, e3, e4⟩⟩ := HX.out wr hb.out
    have hle := Rl.above_le L0 seq i
    obtain ⟨ml, hml⟩ : ∃ ml, Hid ((Rl.above (L0.take i) seq).length = ml) := ⟨_, Lib.hid rfl⟩
    rw [hml.out] at hm9 hle ⊢
    by_cases hlt : i < k
    · have hltI : (i : Int) < (k : Int) := by omega
      obtain ⟨bb, bo, rfl, hcc⟩ := HKV.out.cells (i := i) (by rw [hkL.out]; exact hlt)
      have hos := Lib.hid (Rl.above_snoc L0 seq (i := i) (by rw [hkL.out]; exact hlt))
      have hzm : Hid (L0.getD i kv0 ∈ L0) := Lib.hid (by rw [List.getD_eq_getElem?_getD, List.getElem?_eq_getElem (by rw [hkL.out]; exact hlt)]; exact List.getElem_mem _)
      obtain ⟨z, hz⟩ : ∃ z, Hid (L0.getD i kv0 = z) := ⟨_, Lib.hid rfl⟩
      rw [hz.out] at hcc hos hzm
      obtain ⟨A7, c7, h7, -⟩ := HKV.out.2 z hzm.out
      have HC : Hid (∀ wx, Below w.heap.size w wx → wx.cell? ⟨bb, bo + i * 8, none⟩ = some (.int .i64 z.1.kind) ∧ wx.cell? ⟨bb, bo + i * 8 + 1, none⟩ = some (.int .i64 z.1.view) ∧ wx.cell? ⟨bb, bo + i * 8 + 2, none⟩ = some (.int .i64 z.1.seq) ∧ wx.cell? ⟨bb, bo + i * 8 + 3, none⟩ = some (.int .i64 0) ∧ wx.cell? ⟨bb, bo + i * 8 + 4, none⟩ = some (.int .i64 0) ∧ wx.cell? ⟨bb, bo + i * 8 + 5, none⟩ = some (.string z.1.digest) ∧ wx.cell? ⟨bb, bo + i * 8 + 6, none⟩ = some (.string z.1.text) ∧ wx.cell? ⟨bb, bo + i * 8 + 7, none⟩ = some (.slice A7 z.1.list.length c7)) := Lib.hid fun wx hx => by
        have h8 := hcc wx hx
        unfold kcell at h8
        rw [h7] at h8
        exact ⟨h8 0 (by omega), h8 1 (by omega), h8 2 (by omega), h8 3 (by omega), h8 4 (by omega), h8 5 (by omega), h8 6 (by omega), h8 7 (by omega)⟩
      have H7 := Lib.hid h7
      clear hcc h7
      obtain ⟨k0, k1, k2, k3, k4, k5, k6, k7⟩ := HC.out wr (below_next hb0.out hb.out)
      by_cases s1 : seq < z.1.seq
      · have hos2 : Hid (Rl.above (L0.take (i + 1)) seq = Rl.above (L0.take i) seq ++ [z]) := Lib.hid (by rw [hos.out, if_pos s1])
        clear hos
        go_wp2_with (first
          | (refine wpList_append_mine rfl (.tmp 37) (.tmp 43) 42 42 rfl 46 i2 (.agg #[.int .i64 0, .int .i64 0, .int .i64 0, .int .i64 0, .int .i64 0, .string noText, .string noText, .slice none 0 0]) 96 Try.underlying42 HI2.out HZ0.out HZ1.out HZ2.out rfl (by decide) rfl (hm9.out.alloc _) (hb.out.alloc hb.out.size _) _ 1 [.int .i64 z.1.kind, .int .i64 z.1.view, .int .i64 z.1.seq, .int .i64 0, .int .i64 0, .string z.1.digest, .string z.1.text, .slice A7 z.1.list.length c7] rfl (src_new Try.underlying42 _ _ _ 1 1 rfl (by simp [Value.oneCell'])) (by unfold maxLen; omega) (by omega) ?_; intro A2 c2' w3 hm3 hb3; have HM3 := Lib.hid hm3; have HB3 := Lib.hid hb3; clear hm3 hb3))
        go_roundg (k + 1 - (i + 1))
        case measure => omega
        case rel =>
          have hlen2 : (Rl.above (L0.take (i + 1)) seq).length = ml + 1 := by rw [hos2.out, List.length_append, hml.out]; rfl
          have hzc : kvcells [z] = [.int .i64 z.1.kind, .int .i64 z.1.view, .int .i64 z.1.seq, .int .i64 0, .int .i64 0, .string z.1.digest, .string z.1.text, .slice A7 z.1.list.length c7] := by
            have e : kvcells [z] = kcell z.1 z.2 ++ [] := rfl
            rw [e, List.append_nil, H7.out]; rfl
          refine ⟨i + 1, A2, c2', rfl, by omega, by go_num, by rw [hlen2], Lib.hid ?_, Lib.hid HB3.out⟩
          rw [hlen2, hos2.out, kvcells_append, hzc]
          exact HM3.out
      · have hos2 : Hid (Rl.above (L0.take (i + 1)) seq = Rl.above (L0.take i) seq) := Lib.hid (by rw [hos.out, if_neg s1, List.append_nil])
        have s1B : decide (seq < z.1.seq) = false := by simpa using s1
        clear hos
        go_wp2
        go_roundg (k + 1 - (i + 1))
        case measure => omega
        case rel => exact ⟨i + 1, A9, c9, rfl, by omega, by go_num, by rw [hos2.out, hml.out], by rw [hos2.out, hml.out]; exact hm9, hb⟩
    · obtain rfl : i = k := by omega
      have EF : Hid (L0.take i = L0) := Lib.hid (List.take_of_length_le (by rw [hkL.out]; exact Nat.le_refl _))
      rw [EF.out] at hm9 hml
      clear hlt i0
      go_wp2
      (try simp only [Exit.inBlock, Exit.then])
      refine bodyPost_ret (by simp [results, Try.results48, asAddr, go_sem, c0, c1, c2, c3, c4, z0, z1, z2, z3, z4]; rfl) rfl ?_
      have hbz := below_five (B := w.heap.size) (g := g1 + 1) (((below_next hb0.out hb.out).setCell (p := ⟨g1, 4, none⟩) (by rw [HG.out]; exact Nat.le_refl _) (.slice A9 ml c9)).setCell (p := ⟨g1, 2, none⟩) (by rw [HG.out]; exact Nat.le_refl _) (.int .i64 seq)) (by rw [HG.out]; omega) (.int .i64 n) (.int .i64 v) (.int .i64 seq) (.slice A m cA) (.slice A9 ml c9)
      have hg2 : g1 + 1 < wy.heap.size := B1.out.lt
      have hmz := (((hm9.out.cell1 (g := g1) (j := 4) (by omega) (.slice A9 ml c9)).cell1 (g := g1) (j := 2) (by omega) (.int .i64 seq))).five (g := g1 + 1) hg2 (.int .i64 n) (.int .i64 v) (.int .i64 seq) (.slice A m cA) (.slice A9 ml c9)
      have hwy := hb0.out.size
      exact rtold E.out hm.out (by show (List.map Prod.fst _).length = _; rw [List.length_map]; exact hml.out) hv.out rfl rfl hbz fun W' hs hb' hp => ⟨hp.1, (Mine.kvrow (hmz.carry hs fun b h1 h2 => hb' b (Nat.le_trans hwy h1) h2) hml.out fun pz hpz => hp.2.2 pz (List.mem_filter.1 hpz).1).2⟩
end Go.Proofs.Ytedndjbhgbdpoaa
namespace Go.Proofs.Ytedndjbhgbdpoaa
open Go.RowKit
set_option linter.unusedSimpArgs false
set_option linter.unusedVariables false
set_option maxHeartbeats 16000000 in
set_option maxRecDepth 20000 in
theorem slot_calls (w0 w : World) (g : Nat) (x : Vl) (hx : Vw w0 w g x) (A B : Option Addr) (cA k cB : Nat) (y : Rl) (h : IRow w A y.L) (hP : Pair x y) (hb : x.Bare) {i : Nat} (hf : y.Few i) (hi : i ≤ 900) (seq : Int) :
    Calls Try.prog 50 #[.pointer (some ⟨g, 0, none⟩), .agg #[.int .i64 y.n, .int .i64 y.view, .int .i64 y.low, .slice A y.L.length cA, .slice B k cB], .int .i64 seq] w fun e w' => e = .returned (.bool true) ∧ Below w.heap.size w w' := by
  have ho := hx.ok
  have hlo : 0 ≤ y.low ∧ y.low ≤ 1073741824 := by rw [hP.low]; exact ho.low
  have hn : y.n = 4 ∨ y.n = 7 ∨ y.n = 10 ∨ y.n = 13 := by rw [hP.n]; exact ho.n
  have hlen : y.L.length ≤ 1000 := by have := hf.1; omega
  obtain ⟨D, hD⟩ : ∃ D, (x.proposal seq).1 = D := ⟨_, rfl⟩
  obtain ⟨T, hT⟩ : ∃ T, (x.proposal seq).2.1 = T := ⟨_, rfl⟩
  obtain ⟨hs, hhs⟩ : ∃ hs, (x.proposal seq).2.2 = hs := ⟨_, rfl⟩
  obtain ⟨B3, hB3⟩ : ∃ B3, decide (y.quorum ≤ ((y.agree 3 seq).length : Int)) = B3 := ⟨_, rfl⟩
  obtain ⟨B4, hB4⟩ : ∃ B4, decide (y.quorum ≤ ((y.agree 4 seq).length : Int)) = B4 := ⟨_, rfl⟩
  have HPg : Hid (∀ wx, Below w.heap.size w wx → Calls Try.prog 25 #[.pointer (some ⟨g, 0, none⟩), .int .i64 seq] wx fun e w' => e = .returned (.tuple #[.string D, .string T, .bool hs]) ∧ Below wx.heap.size wx w') := Lib.hid fun wx hbx => by
    have := (hx.next hbx).proposal seq
    rw [hD, hT, hhs] at this
    exact this
  have HPp : Hid (∀ wx, Below w.heap.size w wx → Calls Try.prog 18 #[.pointer (some ⟨g, 0, none⟩), .int .i64 seq] wx fun e w' => e = .returned (.bool B3) ∧ Below wx.heap.size wx w') := Lib.hid fun wx hbx => by
    have := (hx.next hbx).prepared seq
    rw [hP.tells_prepared ho seq, hB3] at this
    exact this
  have HPc : Hid (∀ wx, Below w.heap.size w wx → Calls Try.prog 21 #[.pointer (some ⟨g, 0, none⟩), .int .i64 seq] wx fun e w' => e = .returned (.bool (B3 && B4)) ∧ Below wx.heap.size wx w') := Lib.hid fun wx hbx => by
    have := (hx.next hbx).committed seq
    rw [hP.tells_committed ho seq, hB3, hB4] at this
    exact this
  have HRp : Hid (∃ p : It, p.digest = D ∧ p.batch = T ∧ ∀ wx, Below w.heap.size w wx → Calls Try.prog 52 #[.agg #[.int .i64 y.n, .int .i64 y.view, .int .i64 y.low, .slice A y.L.length cA, .slice B k cB], .int .i64 seq] wx fun e w' => e = .returned (.tuple #[.agg #[.int .i64 p.kind, .int .i64 p.frm, .int .i64 p.view, .int .i64 p.seq, .string p.digest, .string p.batch, .int .i64 p.m.frm, .string p.m.body, .string p.m.sig], .bool hs]) ∧ Below wx.heap.size wx w') := Lib.hid (by
    obtain ⟨e1, e2, e3⟩ := hP.tells_proposal hb seq
    refine ⟨(y.proposal seq).getD It.none, e1.trans hD, e2.trans hT, fun wx hbx => ?_⟩
    have := rproposal_calls wx A B cA k cB y (h.below hbx) hlo hlen seq
    unfold TellsItem at this
    rw [e3, hhs] at this
    exact this)
  have HRa : Hid (∀ wx (kd : Int), Below w.heap.size w wx → Calls Try.prog 57 #[.agg #[.int .i64 y.n, .int .i64 y.view, .int .i64 y.low, .slice A y.L.length cA, .slice B k cB], .int .i64 kd, .int .i64 seq] wx (TellsList wx (y.agree kd seq))) := Lib.hid fun wx kd hbx => ragree_calls wx A B cA k cB y (h.below hbx) hlo hlen hn kd seq
  have HRq : Hid (∀ wx, Calls Try.prog 56 #[.agg #[.int .i64 y.n, .int .i64 y.view, .int .i64 y.low, .slice A y.L.length cA, .slice B k cB]] wx fun e w' => e = .returned (.int .i64 (y.n - (y.n - 1) / 3)) ∧ Below wx.heap.size wx w') := Lib.hid fun wx => rquorum_calls wx y.n y.view y.low A B y.L.length cA k cB hn
  have HVs : Hid (∀ (j : Nat) (frm : Int), j < 2 → (Lit.int .i64 frm).wf = true → ∃ (a : Int) (b c : ByteArray) (hd : Bool) (q : It), q.m = ⟨a, b, c⟩ ∧ (∀ wx, Below w.heap.size w wx → Calls Try.prog 26 #[.pointer (some ⟨g, 0, none⟩), .int .i64 (3 + (j : Int)), .int .i64 seq, .int .i64 frm] wx fun e w' => e = .returned (.tuple #[.agg #[.int .i64 a, .string b, .string c], .bool hd]) ∧ Below wx.heap.size wx w') ∧
      ∀ wx, Below w.heap.size w wx → Calls Try.prog 54 #[.agg #[.int .i64 y.n, .int .i64 y.view, .int .i64 y.low, .slice A y.L.length cA, .slice B k cB], .int .i64 (3 + (j : Int)), .int .i64 seq, .int .i64 frm] wx fun e w' => e = .returned (.tuple #[.agg #[.int .i64 q.kind, .int .i64 q.frm, .int .i64 q.view, .int .i64 q.seq, .string q.digest, .string q.batch, .int .i64 q.m.frm, .string q.m.body, .string q.m.sig], .bool hd]) ∧ Below wx.heap.size wx w') := Lib.hid fun j frm hj hwf => by
    have e := hP.tells_voted ho hf j hj seq frm
    have e1 : (x.voted (3 + (j : Int)) seq frm).isSome = (y.voted (3 + (j : Int)) seq frm).isSome := by rw [← e, Option.isSome_map]
    have e2 : x.votedSg (3 + (j : Int)) seq frm = ((y.voted (3 + (j : Int)) seq frm).getD It.none).m := by
      unfold Vl.votedSg
      rw [← e]
      cases y.voted (3 + (j : Int)) seq frm <;> rfl
    refine ⟨_, _, _, _, (y.voted (3 + (j : Int)) seq frm).getD It.none, rfl, fun wx hbx => ?_, fun wx hbx => rvoted_calls wx A B cA k cB y (h.below hbx) hlo hlen (3 + (j : Int)) seq frm⟩
    have := (hx.next hbx).voted (3 + (j : Int)) (by omega) seq frm hwf
    unfold TellsVote at this
    rw [e1, e2] at this
    exact this
  obtain ⟨q, hqq⟩ : ∃ q : Nat, Hid (y.n - (y.n - 1) / 3 = (q : Int)) := ⟨(y.n - (y.n - 1) / 3).toNat, Lib.hid (by omega)⟩
  rw [hqq.out] at HRq
  obtain ⟨l3, hl3⟩ : ∃ l3, Hid ((y.agree 3 seq).length = l3) := ⟨_, Lib.hid rfl⟩
  obtain ⟨l4, hl4⟩ : ∃ l4, Hid ((y.agree 4 seq).length = l4) := ⟨_, Lib.hid rfl⟩
  have HB3 : Hid (decide ((q : Int) ≤ (l3 : Int)) = B3) := Lib.hid (by rw [← hl3.out, ← hqq.out]; exact hB3)
  have HB4 : Hid (decide ((q : Int) ≤ (l4 : Int)) = B4) := Lib.hid (by rw [← hl4.out, ← hqq.out]; exact hB4)
  have HRa3 : Hid (∀ wx, Below w.heap.size w wx → Calls Try.prog 57 #[.agg #[.int .i64 y.n, .int .i64 y.view, .int .i64 y.low, .slice A y.L.length cA, .slice B k cB], .int .i64 3, .int .i64 seq] wx fun e w' => ∃ A' c', e = .returned (.slice A' l3 c') ∧ Below wx.heap.size wx w') := Lib.hid fun wx hbx => (HRa.out wx 3 hbx).mono fun e w' ⟨A', c', h1, _, h3⟩ => ⟨A', c', by rw [h1, hl3.out], h3⟩
  have HRa4 : Hid (∀ wx, Below w.heap.size w wx → Calls Try.prog 57 #[.agg #[.int .i64 y.n, .int .i64 y.view, .int .i64 y.low, .slice A y.L.length cA, .slice B k cB], .int .i64 4, .int .i64 seq] wx fun e w' => ∃ A' c', e = .returned (.slice A' l4 c') ∧ Below wx.heap.size wx w') := Lib.hid fun wx hbx => (HRa.out wx 4 hbx).mono fun e w' ⟨A', c', h1, _, h3⟩ => ⟨A', c', by rw [h1, hl4.out], h3⟩
  obtain ⟨⟨pk, pf, pv, ps, pd, pb, ⟨pma, pmb, pmc⟩⟩, hpd, hpb, hpc⟩ := HRp.out
  simp only at hpd hpb hpc
  have hpd' := hpd.symm
  have hpb' := hpb.symm
  clear hpd hpb
  subst hpd' hpb'
  have HRp2 := Lib.hid hpc
  obtain ⟨n, hnn⟩ : ∃ n : Nat, Hid (y.n = (n : Int)) := ⟨y.n.toNat, Lib.hid (by omega)⟩
  have hn13 : n ≤ 13 := by have := hnn.out; omega
  clear hpc HRp HRa hx h hP hb hf hi ho hlo hlen hD hT hhs hB3 hB4
  rw [hnn.out] at HRp2 HRa3 HRa4 HRq HVs hn ⊢
  clear hn
  generalize y.L.length = m at HRp2 HRa3 HRa4 HRq HVs ⊢
  generalize y.view = v at HRp2 HRa3 HRa4 HRq HVs ⊢
  generalize y.low = lo at HRp2 HRa3 HRa4 HRq HVs ⊢
  have hb0 : Hid (Below w.heap.size w (w.alloc (.cells #[.int .i64 (n : Int), .int .i64 v, .int .i64 lo, .slice A m cA, .slice B k cB] 65))) := Lib.hid ((Below.refl _ _).alloc (Nat.le_refl _) _)
  have B1 : Hid (Blk (w.alloc (.cells #[.int .i64 (n : Int), .int .i64 v, .int .i64 lo, .slice A m cA, .slice B k cB] 65)) w.heap.size 65 #[.int .i64 (n : Int), .int .i64 v, .int .i64 lo, .slice A m cA, .slice B k cB]) := Lib.hid (Blk.new _ _ _)
  go_enter Try.func50, Try.ntmps50
  go_upto_region 1 with (fail)
  obtain ⟨g1, hg1⟩ : ∃ g1, w.heap.size = g1 := ⟨_, rfl⟩
  rw [hg1] at B1 ⊢
  clear hg1
  generalize World.alloc w _ = wy at hb0 B1 ⊢
  have HX : Hid (∀ wx : World, Below wy.heap.size wy wx → wx.cell? ⟨g1, 0, none⟩ = some (.int .i64 (n : Int)) ∧ wx.cell? ⟨g1, 1, none⟩ = some (.int .i64 v) ∧ wx.cell? ⟨g1, 2, none⟩ = some (.int .i64 lo) ∧ wx.cell? ⟨g1, 3, none⟩ = some (.slice A m cA) ∧ wx.cell? ⟨g1, 4, none⟩ = some (.slice B k cB)) := Lib.hid fun wx hb => by
    have b1 := B1.out.below hb B1.out.lt
    exact ⟨b1.cell 0, b1.cell 1, b1.cell 2, b1.cell 3, b1.cell 4⟩
  go_upto_region 2 with (first
    | (go_at_call 25; (with_reducible refine (HPg.out _ hb0.out).mono ?_); rintro e w2 ⟨rfl, hh⟩; have Hb2 := Lib.hid hh; clear hh))
  obtain ⟨c0, c1, c2, c3, c4⟩ := HX.out w2 Hb2.out
  go_upto_region 3 with (first
    | (go_at_call 52; (with_reducible refine (HRp2.out _ (below_next hb0.out Hb2.out)).mono ?_); rintro e w3 ⟨rfl, hh⟩; have Hb3 := Lib.hid (below_next Hb2.out hh); clear hh))
  clear c0 c1 c2 c3 c4
  have Hb4 : Hid (Below wy.heap.size wy (w3.alloc (.cells #[.int .i64 pk, .int .i64 pf, .int .i64 pv, .int .i64 ps, .string D, .string T, .int .i64 pma, .string pmb, .string pmc] 106))) := Lib.hid (Hb3.out.alloc Hb3.out.size _)
  have BP : Hid (Blk (w3.alloc (.cells #[.int .i64 pk, .int .i64 pf, .int .i64 pv, .int .i64 ps, .string D, .string T, .int .i64 pma, .string pmb, .string pmc] 106)) w3.heap.size 106 #[.int .i64 pk, .int .i64 pf, .int .i64 pv, .int .i64 ps, .string D, .string T, .int .i64 pma, .string pmb, .string pmc]) := Lib.hid (Blk.new _ _ _)
  obtain ⟨gp, hgp⟩ : ∃ gp, w3.heap.size = gp := ⟨_, rfl⟩
  rw [hgp] at BP ⊢
  clear hgp Hb3
  generalize World.alloc w3 _ = w4 at Hb4 BP ⊢
  have HPD : Hid (∀ wx : World, Below w4.heap.size w4 wx → wx.cell? ⟨gp, 4, none⟩ = some (.string D) ∧ wx.cell? ⟨gp, 5, none⟩ = some (.string T)) := Lib.hid fun wx hb => by
    have b1 := BP.out.below hb BP.out.lt
    exact ⟨b1.cell 4, b1.cell 5⟩
  clear BP
  have HXw : Hid (∀ wx : World, Below w4.heap.size w4 wx → wx.cell? ⟨g1, 0, none⟩ = some (.int .i64 (n : Int)) ∧ wx.cell? ⟨g1, 1, none⟩ = some (.int .i64 v) ∧ wx.cell? ⟨g1, 2, none⟩ = some (.int .i64 lo) ∧ wx.cell? ⟨g1, 3, none⟩ = some (.slice A m cA) ∧ wx.cell? ⟨g1, 4, none⟩ = some (.slice B k cB)) := Lib.hid fun wx hx => HX.out wx (below_next Hb4.out hx)
  have Hbw4 := Lib.hid (below_next hb0.out Hb4.out)
  go_cut [12] from 33 to 39 (fun s12 wc => s12 = .bool B3 ∧ Hid (Below w4.heap.size w4 wc))
  case first =>
    have Hd0 : Hid (Below w4.heap.size w4 w4.drew) := Lib.hid (Below.refl _ _).drew
    go_region_held3 (fun wx => wx.cell? ⟨g1, 0, none⟩ = some (.int .i64 (n : Int)) ∧ wx.cell? ⟨g1, 1, none⟩ = some (.int .i64 v) ∧ wx.cell? ⟨g1, 2, none⟩ = some (.int .i64 lo) ∧ wx.cell? ⟨g1, 3, none⟩ = some (.slice A m cA) ∧ wx.cell? ⟨g1, 4, none⟩ = some (.slice B k cB))
      (first | (with_reducible exact HXw.out _ Hd0.out) | (with_reducible exact HXw.out _ hbA.out) | (with_reducible exact HXw.out _ hbQ.out) | (with_reducible exact HXw.out _ hbZ.out) | fail)
      (first
        | (go_at_call 57; (with_reducible refine (HRa3.out _ (below_next Hbw4.out Hd0.out)).mono ?_); rintro e wa ⟨A5, c5, rfl, hh⟩; have hbA := Lib.hid (below_next Hd0.out hh); clear hh)
        | (go_at_call 56; (with_reducible refine (HRq.out _).mono ?_); rintro e wq ⟨rfl, hh⟩; (try (have hbZ := Lib.hid (below_next hbA.out hh))); (try (have hbQ := Lib.hid (below_next Hd0.out hh))); clear hh)
        | (go_at_call 57; (with_reducible refine (HRa3.out _ (below_next Hbw4.out hbQ.out)).mono ?_); rintro e wa ⟨A5, c5, rfl, hh⟩; have hbZ := Lib.hid (below_next hbQ.out hh); clear hh))
    all_goals
      go_wp2_with fail
      go_meet
      exact ⟨by rw [← HB3.out]; simp, hbZ⟩
  case rest =>
    obtain ⟨rfl, hc3⟩ := hcut
    go_upto_region 4 with (fail)
    go_cut [13] from 40 to 49 (fun s13 wc => s13 = .bool (B3 && B4) ∧ Hid (Below w4.heap.size w4 wc))
    case first =>
      cases B3 with
      | false =>
        obtain ⟨c0, c1, c2, c3, c4⟩ := HXw.out _ hc3.out
        go_quiet (fail)
        go_wp2_with fail
        go_meet
        exact ⟨rfl, Lib.hid (below_draw hc3.out _)⟩
      | true =>
        have Hd0 : Hid (Below w4.heap.size w4 wc.drew) := Lib.hid hc3.out.drew
        go_region_held3 (fun wx => wx.cell? ⟨g1, 0, none⟩ = some (.int .i64 (n : Int)) ∧ wx.cell? ⟨g1, 1, none⟩ = some (.int .i64 v) ∧ wx.cell? ⟨g1, 2, none⟩ = some (.int .i64 lo) ∧ wx.cell? ⟨g1, 3, none⟩ = some (.slice A m cA) ∧ wx.cell? ⟨g1, 4, none⟩ = some (.slice B k cB))
          (first | (with_reducible exact HXw.out _ Hd0.out) | (with_reducible exact HXw.out _ hbA.out) | (with_reducible exact HXw.out _ hbQ.out) | (with_reducible exact HXw.out _ hbZ.out) | fail)
          (first
            | (go_at_call 57; (with_reducible refine (HRa4.out _ (below_next Hbw4.out Hd0.out)).mono ?_); rintro e wa ⟨A5, c5, rfl, hh⟩; have hbA := Lib.hid (below_next Hd0.out hh); clear hh)
            | (go_at_call 56; (with_reducible refine (HRq.out _).mono ?_); rintro e wq ⟨rfl, hh⟩; (try (have hbZ := Lib.hid (below_next hbA.out hh))); (try (have hbQ := Lib.hid (below_next Hd0.out hh))); clear hh)
            | (go_at_call 57; (with_reducible refine (HRa4.out _ (below_next Hbw4.out hbQ.out)).mono ?_); rintro e wa ⟨A5, c5, rfl, hh⟩; have hbZ := Lib.hid (below_next hbQ.out hh); clear hh))
        all_goals
          go_wp2_with fail
          go_meet
          exact ⟨by rw [← HB4.out]; simp, hbZ⟩
    case rest =>
      obtain ⟨rfl, hc4⟩ := hcut
      go_upto_region 5 with (fail)
      go_cut [78] from 50 to 78 (fun s78 wc => s78 = .bool false ∧ Hid (Below w4.heap.size w4 wc))
      case first =>
        obtain ⟨p4, p5⟩ := HPD.out _ hc4.out
        cases hs <;> cases B3 <;> cases B4
        all_goals
          go_wp2_with (first
            | (go_at_call 18; (with_reducible refine (HPp.out _ (below_next Hbw4.out hc4.out)).mono ?_); rintro e w5 ⟨rfl, hh⟩; have Hb5 := Lib.hid (below_next hc4.out hh); clear hh)
            | (go_at_call 21; (with_reducible refine (HPc.out _ (below_next Hbw4.out Hb5.out)).mono ?_); rintro e w6 ⟨rfl, hh⟩; have Hb6 := Lib.hid (below_next Hb5.out hh); clear hh))
          go_meet
          exact ⟨rfl, Hb6⟩
      case rest =>
        obtain ⟨rfl, hc5⟩ := hcut
        clear HPg HPp HPc HRp2 HRa3 HRa4 HRq HPD HB3 HB4
        go_wp2
        go_loopg [14] 3 (fun gk s14 wr => ∃ kk : Nat, gk = 3 - kk ∧ kk ≤ 2 ∧ s14 = .int .i64 (3 + (kk : Int)) ∧ Hid (Below w4.heap.size w4 wr))
        case atStart => exact ⟨0, rfl, Nat.zero_le _, rfl, hc5⟩
        case round =>
          obtain ⟨kk, rfl, hkk, rfl, hb⟩ := hrel
          obtain ⟨zk, hzk⟩ : ∃ zk : Int, 3 + (kk : Int) = zk := ⟨_, rfl⟩
          have HZK := Lib.hid hzk
          by_cases hk2 : kk < 2
          · have hzk4 : zk ≤ 4 := by omega
            have hwk : IntKind.i64.wrap (zk + 1) = zk + 1 := by rw [IntKind.wrap_i64]; omega
            rw [hzk]
            clear hzk
            go_wp2
            go_loopg [15] (n + 3) (fun gk s15 wr => ∃ i : Nat, gk = n + 3 - i ∧ i ≤ n + 2 ∧ s15 = .int .i64 ((i : Int) - 1) ∧ Hid (Below w4.heap.size w4 wr))
            case atStart => exact ⟨0, rfl, Nat.zero_le _, rfl, hb⟩
            case round =>
              obtain ⟨i, rfl, hi, rfl, hbi⟩ := hrel
              obtain ⟨zi, hzi⟩ : ∃ zi : Int, (i : Int) - 1 = zi := ⟨_, rfl⟩
              have HZI := Lib.hid hzi
              rw [hzi]
              have hwi : IntKind.i64.wrap (zi + 1) = zi + 1 := by rw [IntKind.wrap_i64]; omega
              obtain ⟨c0, c1, c2, c3, c4⟩ := HXw.out _ hbi.out
              by_cases hlt : i < n + 2
              · have hziI : zi ≤ (n : Int) := by omega
                obtain ⟨a, b, c, hd, q, hqm, hv1, hv2⟩ := HVs.out kk zi hk2 (wf64 (by omega))
                rw [HZK.out] at hv1 hv2
                have HV1 := Lib.hid (hv1 _ (below_next Hbw4.out hbi.out))
                have HV2 := Lib.hid hv2
                have HQM := Lib.hid hqm
                clear hv1 hv2 hqm hzi
                go_upto_region 14 with (first
                  | (go_at_call 26; (with_reducible refine (HV1.out).mono ?_); rintro e w5 ⟨rfl, hh⟩; have Hb5 := Lib.hid (below_next hbi.out hh); clear hh))
                clear c0 c1 c2 c3 c4
                have Hb6 : Hid (Below w4.heap.size w4 (w5.alloc (.cells #[.int .i64 a, .string b, .string c] 48))) := Lib.hid (Hb5.out.alloc Hb5.out.size _)
                have BS : Hid (Blk (w5.alloc (.cells #[.int .i64 a, .string b, .string c] 48)) w5.heap.size 48 #[.int .i64 a, .string b, .string c]) := Lib.hid (Blk.new _ _ _)
                obtain ⟨gs, hgs⟩ : ∃ gs, w5.heap.size = gs := ⟨_, rfl⟩
                rw [hgs] at BS ⊢
                clear hgs Hb5
                generalize World.alloc w5 _ = w6 at Hb6 BS ⊢
                obtain ⟨c0, c1, c2, c3, c4⟩ := HXw.out _ Hb6.out
                go_upto_region 15 with (first
                  | (go_at_call 54; (with_reducible refine (HV2.out _ (below_next Hbw4.out Hb6.out)).mono ?_); rintro e w7 ⟨rfl, hh⟩; have Hb7 := Lib.hid (below_next Hb6.out hh); have Hb67 := Lib.hid hh; clear hh))
                clear c0 c1 c2 c3 c4
                have Hb8 : Hid (Below w4.heap.size w4 (w7.alloc (.cells #[.int .i64 q.kind, .int .i64 q.frm, .int .i64 q.view, .int .i64 q.seq, .string q.digest, .string q.batch, .int .i64 q.m.frm, .string q.m.body, .string q.m.sig] 106))) := Lib.hid (Hb7.out.alloc Hb7.out.size _)
                have Hb68 : Hid (Below w6.heap.size w6 (w7.alloc (.cells #[.int .i64 q.kind, .int .i64 q.frm, .int .i64 q.view, .int .i64 q.seq, .string q.digest, .string q.batch, .int .i64 q.m.frm, .string q.m.body, .string q.m.sig] 106))) := Lib.hid (Hb67.out.alloc Hb67.out.size _)
                have BI : Hid (Blk (w7.alloc (.cells #[.int .i64 q.kind, .int .i64 q.frm, .int .i64 q.view, .int .i64 q.seq, .string q.digest, .string q.batch, .int .i64 q.m.frm, .string q.m.body, .string q.m.sig] 106)) w7.heap.size 106 #[.int .i64 q.kind, .int .i64 q.frm, .int .i64 q.view, .int .i64 q.seq, .string q.digest, .string q.batch, .int .i64 q.m.frm, .string q.m.body, .string q.m.sig]) := Lib.hid (Blk.new _ _ _)
                obtain ⟨gi, hgi⟩ : ∃ gi, w7.heap.size = gi := ⟨_, rfl⟩
                rw [hgi] at BI ⊢
                clear hgi Hb7 Hb67
                generalize World.alloc w7 _ = w8 at Hb8 Hb68 BI ⊢
                have s0 : w8.cell? ⟨gs, 0, none⟩ = some (.int .i64 a) := (BS.out.below Hb68.out BS.out.lt).cell 0
                have s1 : w8.cell? ⟨gs, 1, none⟩ = some (.string b) := (BS.out.below Hb68.out BS.out.lt).cell 1
                have s2 : w8.cell? ⟨gs, 2, none⟩ = some (.string c) := (BS.out.below Hb68.out BS.out.lt).cell 2
                have q6 : w8.cell? ⟨gi, 6, none⟩ = some (.int .i64 a) := by have := BI.out.cell 6; rw [HQM.out] at this; exact this
                have q7 : w8.cell? ⟨gi, 7, none⟩ = some (.string b) := by have := BI.out.cell 7; rw [HQM.out] at this; exact this
                have q8 : w8.cell? ⟨gi, 8, none⟩ = some (.string c) := by have := BI.out.cell 8; rw [HQM.out] at this; exact this
                cases hd
                all_goals
                  go_wp2
                  go_roundg (n + 3 - (i + 1))
                  case measure => omega
                  case rel => exact ⟨i + 1, rfl, by omega, by have := HZI.out; first | (rw [← this]; go_num) | (congr 1; omega), Hb8⟩
              · have hziI : ¬ zi ≤ (n : Int) := by omega
                have hziB : decide (zi ≤ (n : Int)) = false := by simpa using hziI
                clear hzi
                go_wp2
                go_roundg (3 - (kk + 1))
                case measure => omega
                case rel => exact ⟨kk + 1, rfl, by omega, by have := HZK.out; first | (rw [← this]; go_num) | (congr 1; omega), hbi⟩
          · have hzk4 : ¬ zk ≤ 4 := by omega
            have hzkB : decide (zk ≤ 4) = false := by simpa using hzk4
            rw [hzk]
            clear hzk
            go_wp2
            go_ret
            exact ⟨rfl, below_next Hbw4.out hb.out⟩
end Go.Proofs.Ytedndjbhgbdpoaa
namespace Go.Proofs.Ytedndjbhgbdpoaa
open Go.RowKit
set_option linter.unusedSimpArgs false
set_option linter.unusedVariables false
theorem Vw.stable {w0 w : World} {g : Nat} {l : Vl} (h : Vw w0 w g l) : Calls Try.prog 28 #[.pointer (some ⟨g, 0, none⟩)] w (StableTo l w) := by
  obtain ⟨gm, gv, kv, h1, _⟩ := h
  exact stable_calls h1
set_option maxHeartbeats 16000000 in
set_option maxRecDepth 20000 in
theorem like_calls (w0 w : World) (g : Nat) (x : Vl) (hx : Vw w0 w g x) (A B : Option Addr) (cA cB : Nat) (y : Rl) (L0 : List (Kb × Value)) (hL0 : L0.map Prod.fst = y.kept) (h : IRow w A y.L) (hk : KVRow w B L0) (hP : Pair x y) (hb : x.Bare) {ix : Nat} (hf : y.Few ix) (hi : ix ≤ 900) :
    Calls Try.prog 33 #[.pointer (some ⟨g, 0, none⟩), .agg #[.int .i64 y.n, .int .i64 y.view, .int .i64 y.low, .slice A y.L.length cA, .slice B y.kept.length cB]] w fun e w' => e = .returned (.bool true) ∧ Below w.heap.size w w' := by
  have ho := hx.ok
  have hlo : 0 ≤ y.low ∧ y.low ≤ 1073741824 := by rw [hP.low]; exact ho.low
  have hn : y.n = 4 ∨ y.n = 7 ∨ y.n = 10 ∨ y.n = 13 := by rw [hP.n]; exact ho.n
  have hlen : y.L.length ≤ 1000 := by have := hf.1; omega
  have hk8 : y.kept.length ≤ 8 := by rw [hP.kept]; exact kept_le8 x
  have HSt : Hid (∀ S R L S' R' L', x.StableIs S R L → y.StAt y.n.toNat y.quorum.toNat y.n.toNat S' R' L' → S' = S ∧ R' = R ∧ L' = L) := Lib.hid fun S R L S' R' L' h1 h2 => by
    obtain ⟨e1, e2, e3⟩ := hP.tells_stable ho h1 h2
    exact ⟨e1.symm, e2.symm, e3.symm⟩
  have HS1 : Hid (∀ wx, Below w.heap.size w wx → Calls Try.prog 28 #[.pointer (some ⟨g, 0, none⟩)] wx (StableTo x wx)) := Lib.hid fun wx hbx => (hx.next hbx).stable
  have HS2 : Hid (∀ wx, Below w.heap.size w wx → Calls Try.prog 49 #[.agg #[.int .i64 y.n, .int .i64 y.view, .int .i64 y.low, .slice A y.L.length cA, .slice B y.kept.length cB]] wx (TellsStable wx y y.n.toNat y.quorum.toNat)) := Lib.hid fun wx hbx => rstable_calls wx A B cA y.kept.length cB y (h.below hbx) hlo.1 hlen hn
  have HKe : Hid (∀ wx, Below w.heap.size w wx → Calls Try.prog 22 #[.pointer (some ⟨g, 0, none⟩)] wx fun e w' => ∃ A' c', e = .returned (.slice A' y.kept.length c') ∧ KeptAt wx w' (.slice A' y.kept.length c') y.kept ∧ Below wx.heap.size wx w') := Lib.hid fun wx hbx => by
    have := (hx.next hbx).kept
    rw [← hP.kept] at this
    exact this
  have HVi : Hid (∀ wx, Below w.heap.size w wx → Calls Try.prog 23 #[.pointer (some ⟨g, 0, none⟩)] wx fun e w' => e = .returned (.int .i64 y.view) ∧ wx = w') := Lib.hid fun wx hbx => by
    have := (hx.next hbx).view
    rw [← hP.view] at this
    exact this
  have HLw : Hid (∀ wx, Below w.heap.size w wx → Calls Try.prog 20 #[.pointer (some ⟨g, 0, none⟩)] wx fun e w' => e = .returned (.int .i64 y.low) ∧ wx = w') := Lib.hid fun wx hbx => by
    have := (hx.next hbx).low
    rw [← hP.low] at this
    exact this
  have HSl : Hid (∀ wx seq, Below w.heap.size w wx → Calls Try.prog 50 #[.pointer (some ⟨g, 0, none⟩), .agg #[.int .i64 y.n, .int .i64 y.view, .int .i64 y.low, .slice A y.L.length cA, .slice B y.kept.length cB], .int .i64 seq] wx fun e w' => e = .returned (.bool true) ∧ Below wx.heap.size wx w') := Lib.hid fun wx seq hbx => slot_calls w0 wx g x (hx.next hbx) A B cA y.kept.length cB y (h.below hbx) hP hb hf hi seq
  have hq9 : Hid (∀ i, i < y.kept.length → (y.kept.getD i Kb.none).list.length ≤ 1000) := Lib.hid fun i hil => by
    rw [hP.kept] at hil ⊢
    have := kept_short ho hil
    omega
  have HLen : Hid (∀ S R L, y.StAt y.n.toNat y.quorum.toNat y.n.toNat S R L → L.length ≤ 1000) := Lib.hid fun S R L h => by
    rcases h with ⟨_, _, rfl, _⟩ | ⟨j, z, _, _, _, _, _, _, rfl⟩
    · simp
    · have h1 := Rl.grp_le y z.seq z.digest y.n.toNat
      rw [List.length_take]
      omega
  have HKV := Lib.hid hk
  have HL0 := Lib.hid hL0
  have hkL : Hid (L0.length = y.kept.length) := Lib.hid (by rw [← hL0, List.length_map])
  obtain ⟨n, hnn⟩ : ∃ n, Hid (y.n = n) := ⟨_, Lib.hid rfl⟩
  obtain ⟨kl, hkl⟩ : ∃ kl, Hid (y.kept = kl) := ⟨_, Lib.hid rfl⟩
  rw [hkl.out] at hq9 HL0 hkL HS2 HKe HSl hk8 ⊢
  obtain ⟨k, hkk⟩ : ∃ k, Hid (kl.length = k) := ⟨_, Lib.hid rfl⟩
  rw [hkk.out] at hq9 hkL HS2 HKe HSl hk8 ⊢
  obtain ⟨lo, hll⟩ : ∃ lo, Hid (y.low = lo) := ⟨_, Lib.hid rfl⟩
  rw [hll.out] at HS2 HLw HSl hlo ⊢
  obtain ⟨v, hvv⟩ : ∃ v, Hid (y.view = v) := ⟨_, Lib.hid rfl⟩
  rw [hvv.out] at HS2 HVi HSl ⊢
  obtain ⟨m, hmm⟩ : ∃ m, Hid (y.L.length = m) := ⟨_, Lib.hid rfl⟩
  rw [hmm.out] at HS2 HSl ⊢
  obtain ⟨hlo0, hlo1⟩ := hlo
  clear hx h hk hL0 hP hb hf hi ho hn hlen
  have hb0 : Hid (Below w.heap.size w (w.alloc (.cells #[.int .i64 y.n, .int .i64 v, .int .i64 lo, .slice A m cA, .slice B k cB] 65))) := Lib.hid ((Below.refl _ _).alloc (Nat.le_refl _) _)
  have B1 : Hid (Blk (w.alloc (.cells #[.int .i64 y.n, .int .i64 v, .int .i64 lo, .slice A m cA, .slice B k cB] 65)) w.heap.size 65 #[.int .i64 y.n, .int .i64 v, .int .i64 lo, .slice A m cA, .slice B k cB]) := Lib.hid (Blk.new _ _ _)
  go_enter Try.func33, Try.ntmps33
  go_upto_region 1 with (fail)
  obtain ⟨g1, hg1⟩ : ∃ g1, w.heap.size = g1 := ⟨_, rfl⟩
  rw [hg1] at B1 ⊢
  clear hg1
  generalize World.alloc w _ = wy at hb0 B1 ⊢
  have HX : Hid (∀ wx : World, Below wy.heap.size wy wx → wx.cell? ⟨g1, 0, none⟩ = some (.int .i64 y.n) ∧ wx.cell? ⟨g1, 1, none⟩ = some (.int .i64 v) ∧ wx.cell? ⟨g1, 2, none⟩ = some (.int .i64 lo) ∧ wx.cell? ⟨g1, 3, none⟩ = some (.slice A m cA) ∧ wx.cell? ⟨g1, 4, none⟩ = some (.slice B k cB)) := Lib.hid fun wx hb => by
    have b1 := B1.out.below hb B1.out.lt
    exact ⟨b1.cell 0, b1.cell 1, b1.cell 2, b1.cell 3, b1.cell 4⟩
  go_upto_region 2 with (first
    | (go_at_call 28; (refine (HS1.out _ hb0.out).mono ?_); rintro e w2 ⟨S, R, L, A1, c1, rfl, hst, hr1, hh⟩; have Hb2 := Lib.hid hh; have HR1 := Lib.hid hr1; have HStx := Lib.hid hst; clear hh hr1 hst))
  obtain ⟨c0, c1', c2, c3, c4⟩ := HX.out w2 Hb2.out
  have HS2x := Lib.hid (HS2.out w2 (below_next hb0.out Hb2.out))
  go_upto_region 3 with (first
    | (go_at_call 49; (refine (HS2x.out).mono ?_); rintro e w3 ⟨S', R', L', A2, c2', rfl, hst, hr2, hh⟩; obtain ⟨rfl, rfl, rfl⟩ := HSt.out _ _ _ _ _ _ HStx.out hst; have hLn := Lib.hid (HLen.out _ _ _ hst); have Hb3 := Lib.hid (below_next Hb2.out hh); have HR1 := Lib.hid (HR1.out.below hh); have HR2 := Lib.hid hr2; clear hh hr2 hst))
  clear c0 c1' c2 c3 c4 HS2x HStx HSt
  go_upto_region 4 with (first
    | (go_at_call 22; (refine (HKe.out _ (below_next hb0.out Hb3.out)).mono ?_); rintro e w4 ⟨A4, c4', rfl, hka, hh⟩; have Hb4 := Lib.hid (below_next Hb3.out hh); have HR1 := Lib.hid (HR1.out.below hh); have HR2 := Lib.hid (HR2.out.below hh); have HKa := Lib.hid hka; clear hh hka))
  have Hbw4 := Lib.hid (below_next hb0.out Hb4.out)
  obtain ⟨ll, hll2⟩ : ∃ ll, Hid (List.length L' = ll) := ⟨_, Lib.hid rfl⟩
  have HSA : Hid (∀ wx, Below w4.heap.size w4 wx → Calls Try.prog 43 #[.slice A1 ll c1, .slice A2 ll c2'] wx fun e w' => e = .returned (.bool true) ∧ Below wx.heap.size wx w') := Lib.hid fun wx hbx => sameAll_calls (HR1.out.below hbx) (HR2.out.below hbx) hll2.out (by rw [← hll2.out]; exact hLn.out)
  rw [hll2.out]
  have HXw : Hid (∀ wx : World, Below w4.heap.size w4 wx → wx.cell? ⟨g1, 0, none⟩ = some (.int .i64 y.n) ∧ wx.cell? ⟨g1, 1, none⟩ = some (.int .i64 v) ∧ wx.cell? ⟨g1, 2, none⟩ = some (.int .i64 lo) ∧ wx.cell? ⟨g1, 3, none⟩ = some (.slice A m cA) ∧ wx.cell? ⟨g1, 4, none⟩ = some (.slice B k cB)) := Lib.hid fun wx hx => HX.out wx (below_next Hb4.out hx)
  have Hd0 : Hid (Below w4.heap.size w4 w4.drew) := Lib.hid (Below.refl _ _).drew
  go_region_held3 (fun wx => wx.cell? ⟨g1, 0, none⟩ = some (.int .i64 y.n) ∧ wx.cell? ⟨g1, 1, none⟩ = some (.int .i64 v) ∧ wx.cell? ⟨g1, 2, none⟩ = some (.int .i64 lo) ∧ wx.cell? ⟨g1, 3, none⟩ = some (.slice A m cA) ∧ wx.cell? ⟨g1, 4, none⟩ = some (.slice B k cB))
    (first | (with_reducible exact HXw.out _ Hd0.out) | (with_reducible exact HXw.out _ hbS.out) | fail)
    (first
      | (go_at_call 23; (with_reducible refine (HVi.out _ (below_next Hbw4.out Hd0.out)).mono ?_); rintro e wv ⟨rfl, rfl⟩)
      | (go_at_call 20; (with_reducible refine (HLw.out _ (below_next Hbw4.out Hd0.out)).mono ?_); rintro e wv ⟨rfl, rfl⟩)
      | (go_at_call 43; (with_reducible refine (HSA.out _ Hd0.out).mono ?_); rintro e wq ⟨rfl, hh⟩; have hbS := Lib.hid (below_next Hd0.out hh); clear hh))
  clear HVi HLw HSA HR1 HR2 HS1 HS2 HKe
  go_wp2
  go_loopg [12] (k + 1) (fun gk s12 wr => ∃ i : Nat, gk = k + 1 - i ∧ i ≤ k ∧ s12 = .int .i64 (i : Int) ∧ Hid (Below w4.heap.size w4 wr))
  case atStart => exact ⟨0, rfl, Nat.zero_le _, rfl, hbS⟩
  case round =>
    obtain ⟨i, rfl, hi, rfl, hb⟩ := hrel
    have i0 : (0 : Int) ≤ (i : Int) := by omega
    by_cases hlt : i < k
    · have hltI : (i : Int) < (k : Int) := by omega
      have hil : i < kl.length := by rw [hkk.out]; exact hlt
      have hbwr := Lib.hid (below_next Hbw4.out hb.out)
      obtain ⟨b1, o1, bl1, ol1, cl1, rfl, -, -, xx, rx⟩ := (HKa.out.below hb.out).cells (i := i) hil
      obtain ⟨b2, o2, rfl, hcc⟩ := HKV.out.cells (i := i) (by rw [hkL.out]; exact hlt)
      have hzm : L0.getD i kv0 ∈ L0 := by rw [List.getD_eq_getElem?_getD, List.getElem?_eq_getElem (by rw [hkL.out]; exact hlt)]; exact List.getElem_mem _
      have hz1 : (L0.getD i kv0).1 = kl.getD i Kb.none := by rw [← HL0.out]; exact (Rl.getD_fst L0 (by rw [hkL.out]; exact hlt)).symm
      obtain ⟨A7, c7, h7, hr7⟩ := HKV.out.2 _ hzm
      have hql := hq9.out i hlt
      have hcw := hcc _ hbwr.out
      unfold kcell at hcw
      rw [h7, hz1] at hcw
      rw [hz1] at hr7
      generalize kl.getD i Kb.none = kb at xx rx hcw hr7 hql
      obtain ⟨kd, kw, kq, kg, kt, kll⟩ := kb
      simp only at xx rx hcw hr7 hql
      obtain ⟨q, hq⟩ : ∃ q, Hid (kll.length = q) := ⟨_, Lib.hid rfl⟩
      have HSm := Lib.hid (fun wx (hh : Below wr.heap.size wr wx) => same_calls (w := wx) (A := some ⟨bl1, ol1, none⟩) (B := A7) (c1 := cl1) (c2 := c7) (n := kll.length) (L := kll) (Row.below rx hh) ((hr7.below hbwr.out).below hh) rfl hql kd kw kq kg kt)
      rw [hq.out] at HSm xx hcw
      have yy : wr.cell? ⟨b2, o2 + i * 8, none⟩ = some (.int .i64 kd) ∧ wr.cell? ⟨b2, o2 + i * 8 + 1, none⟩ = some (.int .i64 kw) ∧ wr.cell? ⟨b2, o2 + i * 8 + 2, none⟩ = some (.int .i64 kq) ∧ wr.cell? ⟨b2, o2 + i * 8 + 3, none⟩ = some (.int .i64 0) ∧ wr.cell? ⟨b2, o2 + i * 8 + 4, none⟩ = some (.int .i64 0) ∧ wr.cell? ⟨b2, o2 + i * 8 + 5, none⟩ = some (.string kg) ∧ wr.cell? ⟨b2, o2 + i * 8 + 6, none⟩ = some (.string kt) ∧ wr.cell? ⟨b2, o2 + i * 8 + 7, none⟩ = some (.slice A7 q c7) := ⟨hcw 0 (by omega), hcw 1 (by omega), hcw 2 (by omega), hcw 3 (by omega), hcw 4 (by omega), hcw 5 (by omega), hcw 6 (by omega), hcw 7 (by omega)⟩
      have HX1 := Lib.hid xx
      have HY1 := Lib.hid yy
      have hbb : Hid (b1 < wr.heap.size ∧ b2 < wr.heap.size) := Lib.hid ⟨block_lt xx.1, block_lt yy.1⟩
      have HSS : Hid (∀ wx : World, Below wr.heap.size wr wx → (wx.cell? ⟨g1, 0, none⟩ = some (.int .i64 y.n) ∧ wx.cell? ⟨g1, 1, none⟩ = some (.int .i64 v) ∧ wx.cell? ⟨g1, 2, none⟩ = some (.int .i64 lo) ∧ wx.cell? ⟨g1, 3, none⟩ = some (.slice A m cA) ∧ wx.cell? ⟨g1, 4, none⟩ = some (.slice (some ⟨b2, o2, none⟩) k cB)) ∧ (wx.cell? ⟨b1, o1 + i * 8, none⟩ = some (.int .i64 kd) ∧ wx.cell? ⟨b1, o1 + i * 8 + 1, none⟩ = some (.int .i64 kw) ∧ wx.cell? ⟨b1, o1 + i * 8 + 2, none⟩ = some (.int .i64 kq) ∧ wx.cell? ⟨b1, o1 + i * 8 + 3, none⟩ = some (.int .i64 0) ∧ wx.cell? ⟨b1, o1 + i * 8 + 4, none⟩ = some (.int .i64 0) ∧ wx.cell? ⟨b1, o1 + i * 8 + 5, none⟩ = some (.string kg) ∧ wx.cell? ⟨b1, o1 + i * 8 + 6, none⟩ = some (.string kt) ∧ wx.cell? ⟨b1, o1 + i * 8 + 7, none⟩ = some (.slice (some ⟨bl1, ol1, none⟩) q cl1)) ∧ (wx.cell? ⟨b2, o2 + i * 8, none⟩ = some (.int .i64 kd) ∧ wx.cell? ⟨b2, o2 + i * 8 + 1, none⟩ = some (.int .i64 kw) ∧ wx.cell? ⟨b2, o2 + i * 8 + 2, none⟩ = some (.int .i64 kq) ∧ wx.cell? ⟨b2, o2 + i * 8 + 3, none⟩ = some (.int .i64 0) ∧ wx.cell? ⟨b2, o2 + i * 8 + 4, none⟩ = some (.int .i64 0) ∧ wx.cell? ⟨b2, o2 + i * 8 + 5, none⟩ = some (.string kg) ∧ wx.cell? ⟨b2, o2 + i * 8 + 6, none⟩ = some (.string kt) ∧ wx.cell? ⟨b2, o2 + i * 8 + 7, none⟩ = some (.slice A7 q c7))) := Lib.hid fun wx hh => by
        obtain ⟨x0, x1, x2, x3, x4, x5, x6, x7⟩ := HX1.out
        obtain ⟨y0, y1, y2, y3, y4, y5, y6, y7⟩ := HY1.out
        have e1 := fun (o : Nat) => below_cell hh (b := b1) (o := o) hbb.out.1
        have e2 := fun (o : Nat) => below_cell hh (b := b2) (o := o) hbb.out.2
        exact ⟨HXw.out wx (below_next hb.out hh), ⟨(e1 _).trans x0, (e1 _).trans x1, (e1 _).trans x2, (e1 _).trans x3, (e1 _).trans x4, (e1 _).trans x5, (e1 _).trans x6, (e1 _).trans x7⟩, (e2 _).trans y0, (e2 _).trans y1, (e2 _).trans y2, (e2 _).trans y3, (e2 _).trans y4, (e2 _).trans y5, (e2 _).trans y6, (e2 _).trans y7⟩
      have Hdr : Hid (Below wr.heap.size wr wr.drew) := Lib.hid (Below.refl _ _).drew
      clear xx yy rx hr7 hcw hcc hzm hz1 h7 hil hql
      go_upto_region 9 with (fail)
      go_region_held3 (fun w' => (w'.cell? ⟨g1, 0, none⟩ = some (.int .i64 y.n) ∧ w'.cell? ⟨g1, 1, none⟩ = some (.int .i64 v) ∧ w'.cell? ⟨g1, 2, none⟩ = some (.int .i64 lo) ∧ w'.cell? ⟨g1, 3, none⟩ = some (.slice A m cA) ∧ w'.cell? ⟨g1, 4, none⟩ = some (.slice (some ⟨b2, o2, none⟩) k cB)) ∧ (w'.cell? ⟨b1, o1 + i * 8, none⟩ = some (.int .i64 kd) ∧ w'.cell? ⟨b1, o1 + i * 8 + 1, none⟩ = some (.int .i64 kw) ∧ w'.cell? ⟨b1, o1 + i * 8 + 2, none⟩ = some (.int .i64 kq) ∧ w'.cell? ⟨b1, o1 + i * 8 + 3, none⟩ = some (.int .i64 0) ∧ w'.cell? ⟨b1, o1 + i * 8 + 4, none⟩ = some (.int .i64 0) ∧ w'.cell? ⟨b1, o1 + i * 8 + 5, none⟩ = some (.string kg) ∧ w'.cell? ⟨b1, o1 + i * 8 + 6, none⟩ = some (.string kt) ∧ w'.cell? ⟨b1, o1 + i * 8 + 7, none⟩ = some (.slice (some ⟨bl1, ol1, none⟩) q cl1)) ∧ (w'.cell? ⟨b2, o2 + i * 8, none⟩ = some (.int .i64 kd) ∧ w'.cell? ⟨b2, o2 + i * 8 + 1, none⟩ = some (.int .i64 kw) ∧ w'.cell? ⟨b2, o2 + i * 8 + 2, none⟩ = some (.int .i64 kq) ∧ w'.cell? ⟨b2, o2 + i * 8 + 3, none⟩ = some (.int .i64 0) ∧ w'.cell? ⟨b2, o2 + i * 8 + 4, none⟩ = some (.int .i64 0) ∧ w'.cell? ⟨b2, o2 + i * 8 + 5, none⟩ = some (.string kg) ∧ w'.cell? ⟨b2, o2 + i * 8 + 6, none⟩ = some (.string kt) ∧ w'.cell? ⟨b2, o2 + i * 8 + 7, none⟩ = some (.slice A7 q c7)))
        (first | (with_reducible exact HSS.out _ Hdr.out) | (with_reducible exact HSS.out _ hsm.out) | fail)
        (first
          | (go_at_call 30; (with_reducible refine (HSm.out _ Hdr.out).mono ?_); rintro e wm ⟨rfl, hh⟩; have hsm := Lib.hid (below_next Hdr.out hh); clear hh))
      go_wp2
      go_roundg (k + 1 - (i + 1))
      case measure => omega
      case rel => exact ⟨i + 1, rfl, by omega, by go_num, Lib.hid (below_next hb.out hsm.out)⟩
    · obtain rfl : k = i := by omega
      clear hlt i0
      go_wp2
      go_loopg [13] 12 (fun gk s13 wr => ∃ j : Nat, gk = 12 - j ∧ j ≤ 11 ∧ s13 = .int .i64 (j : Int) ∧ Hid (Below w4.heap.size w4 wr))
      case atStart => exact ⟨0, rfl, Nat.zero_le _, rfl, hb⟩
      case round =>
        obtain ⟨j, rfl, hj, rfl, hbj⟩ := hrel
        have j0 : (0 : Int) ≤ (j : Int) := by omega
        obtain ⟨c0, c1x, c2, c3, c4⟩ := HXw.out _ hbj.out
        by_cases hlt : j < 11
        · have hltI : (j : Int) ≤ 10 := by omega
          have hw1 : IntKind.i64.wrap (lo + (j : Int)) = lo + (j : Int) := by rw [IntKind.wrap_i64]; omega
          have HSlx := Lib.hid (HSl.out _ (lo + (j : Int)) (below_next Hbw4.out hbj.out))
          go_wp2_with (first
            | (go_at_call 50; (with_reducible refine (HSlx.out).mono ?_); rintro e w6 ⟨rfl, hh⟩; have Hb6 := Lib.hid (below_next hbj.out hh); clear hh))
          go_roundg (12 - (j + 1))
          case measure => omega
          case rel => exact ⟨j + 1, rfl, by omega, by go_num, Hb6⟩
        · have hltI : ¬ (j : Int) ≤ 10 := by omega
          have hltB : decide ((j : Int) ≤ 10) = false := by simpa using hltI
          go_wp2
          go_ret
          exact ⟨rfl, below_next Hbw4.out hbj.out⟩
end Go.Proofs.Ytedndjbhgbdpoaa
namespace Go.Proofs.Ytedndjbhgbdpoaa
open Go.RowKit
set_option linter.unusedSimpArgs false
set_option linter.unusedVariables false
set_option maxHeartbeats 8000000 in
set_option maxRecDepth 20000 in
theorem rtold_calls (w : World) (A B : Option Addr) (cA cB : Nat) (y : Rl) (L0 : List (Kb × Value)) (hL0 : L0.map Prod.fst = y.kept) (h : IRow w A y.L) (hk : KVRow w B L0) (hlo : 0 ≤ y.low ∧ y.low ≤ 1073741824) (hlen : y.L.length ≤ 900) (hkl : y.kept.length ≤ 900) (hn : y.n = 4 ∨ y.n = 7 ∨ y.n = 10 ∨ y.n = 13) (a : VAct) :
    Calls Try.prog 32 #[.agg #[.int .i64 y.n, .int .i64 y.view, .int .i64 y.low, .slice A y.L.length cA, .slice B y.kept.length cB], .agg (acells a).toArray] w (RTold w A B y.L L0 y.n (y.act a)) := by
  have HE : Hid (y.act a = if arnd a.kind 6 = 0 then y.enter a.view else if arnd a.kind 6 = 1 then y.propose a.view a.seq a.d a.t else if arnd a.kind 6 = 2 then y.vote ⟨a.frm, a.t, ⟨#[115]⟩⟩ 3 a.view a.seq a.d else if arnd a.kind 6 = 3 then y.vote ⟨a.frm, a.t, ⟨#[115]⟩⟩ 4 a.view a.seq a.d else if arnd a.kind 6 = 4 then y.check ⟨a.frm, a.t, ⟨#[115]⟩⟩ 5 a.seq a.d else y.cut a.seq) := Lib.hid rfl
  obtain ⟨kd, fr, vw, sq, d, t⟩ := a
  simp only at HE
  unfold acells
  have hk6 := arnd_lt kd (below := 6) (by omega)
  have HK := Lib.hid (fun w => around6 kd w)
  rcases (show arnd kd 6 = 0 ∨ arnd kd 6 = 1 ∨ arnd kd 6 = 2 ∨ arnd kd 6 = 3 ∨ arnd kd 6 = 4 ∨ arnd kd 6 = 5 by omega) with hkd | hkd | hkd | hkd | hkd | hkd
  · have HE2 := HE.out
    rw [hkd] at HE2 HK
    rw [HE2, if_pos rfl]
    clear HE HE2 hk6
    have HM := Lib.hid (fun wx (hb : Below w.heap.size w wx) => renter_calls wx A B cA cB y L0 hL0 vw)
    generalize y.enter vw = r at HM ⊢
    have HL0 := Lib.hid hL0
    obtain ⟨m, hm⟩ : ∃ m, Hid (y.L.length = m) := ⟨_, Lib.hid rfl⟩
    obtain ⟨k, hkk⟩ : ∃ k, Hid (y.kept.length = k) := ⟨_, Lib.hid rfl⟩
    obtain ⟨n, hnn⟩ : ∃ n, Hid (y.n = n) := ⟨_, Lib.hid rfl⟩
    obtain ⟨v, hv⟩ : ∃ v, Hid (y.view = v) := ⟨_, Lib.hid rfl⟩
    obtain ⟨lo, hl⟩ : ∃ lo, Hid (y.low = lo) := ⟨_, Lib.hid rfl⟩
    rw [hnn.out, hv.out, hl.out, hm.out, hkk.out] at HM
    rw [hm.out, hkk.out, hnn.out, hv.out, hl.out]
    clear h hk hlo hlen hkl hn hL0
    have hb0 : Hid (Below w.heap.size w (((w.alloc (.cells #[.int .i64 n, .int .i64 v, .int .i64 lo, .slice A m cA, .slice B k cB] 65)).alloc (.cells #[.int .i64 kd, .int .i64 fr, .int .i64 vw, .int .i64 sq, .string d, .string t] 32)).alloc (.cells #[.int .i64 0, .int .i64 0, .int .i64 0, .slice none 0 0, .slice none 0 0] 65))) := Lib.hid ((((Below.refl _ _).alloc (Nat.le_refl _) _).alloc (by simp) _).alloc (by simp; omega) _)
    have B0 : Hid (Blk (((w.alloc (.cells #[.int .i64 n, .int .i64 v, .int .i64 lo, .slice A m cA, .slice B k cB] 65)).alloc (.cells #[.int .i64 kd, .int .i64 fr, .int .i64 vw, .int .i64 sq, .string d, .string t] 32)).alloc (.cells #[.int .i64 0, .int .i64 0, .int .i64 0, .slice none 0 0, .slice none 0 0] 65)) w.heap.size 65 #[.int .i64 n, .int .i64 v, .int .i64 lo, .slice A m cA, .slice B k cB]) := Lib.hid (((Blk.new w 65 #[.int .i64 n, .int .i64 v, .int .i64 lo, .slice A m cA, .slice B k cB]).alloc (.cells #[.int .i64 kd, .int .i64 fr, .int .i64 vw, .int .i64 sq, .string d, .string t] 32)).alloc (.cells #[.int .i64 0, .int .i64 0, .int .i64 0, .slice none 0 0, .slice none 0 0] 65))
    have B1 : Hid (Blk (((w.alloc (.cells #[.int .i64 n, .int .i64 v, .int .i64 lo, .slice A m cA, .slice B k cB] 65)).alloc (.cells #[.int .i64 kd, .int .i64 fr, .int .i64 vw, .int .i64 sq, .string d, .string t] 32)).alloc (.cells #[.int .i64 0, .int .i64 0, .int .i64 0, .slice none 0 0, .slice none 0 0] 65)) (w.heap.size + 1) 32 #[.int .i64 kd, .int .i64 fr, .int .i64 vw, .int .i64 sq, .string d, .string t]) := Lib.hid (by have := ((Blk.new (w.alloc (.cells #[.int .i64 n, .int .i64 v, .int .i64 lo, .slice A m cA, .slice B k cB] 65)) 32 #[.int .i64 kd, .int .i64 fr, .int .i64 vw, .int .i64 sq, .string d, .string t]).alloc (.cells #[.int .i64 0, .int .i64 0, .int .i64 0, .slice none 0 0, .slice none 0 0] 65)); simpa using this)
    have B2 : Hid (Blk (((w.alloc (.cells #[.int .i64 n, .int .i64 v, .int .i64 lo, .slice A m cA, .slice B k cB] 65)).alloc (.cells #[.int .i64 kd, .int .i64 fr, .int .i64 vw, .int .i64 sq, .string d, .string t] 32)).alloc (.cells #[.int .i64 0, .int .i64 0, .int .i64 0, .slice none 0 0, .slice none 0 0] 65)) (w.heap.size + 1 + 1) 65 #[.int .i64 0, .int .i64 0, .int .i64 0, .slice none 0 0, .slice none 0 0]) := Lib.hid (by have := (Blk.new ((w.alloc (.cells #[.int .i64 n, .int .i64 v, .int .i64 lo, .slice A m cA, .slice B k cB] 65)).alloc (.cells #[.int .i64 kd, .int .i64 fr, .int .i64 vw, .int .i64 sq, .string d, .string t] 32)) 65 #[.int .i64 0, .int .i64 0, .int .i64 0, .slice none 0 0, .slice none 0 0]); simpa using this)
    go_enter Try.func32, Try.ntmps32
    go_upto_region 1 with (fail)
    obtain ⟨g1, hg1⟩ : ∃ g1, w.heap.size = g1 := ⟨_, rfl⟩
    have HG := Lib.hid hg1
    rw [hg1] at B0 B1 B2 ⊢
    clear hg1
    generalize World.alloc (World.alloc (World.alloc w _) _) _ = wy at hb0 B0 B1 B2 ⊢
    have HX : Hid (∀ wx : World, Below wy.heap.size wy wx → (wx.cell? ⟨g1, 0, none⟩ = some (.int .i64 n) ∧ wx.cell? ⟨g1, 1, none⟩ = some (.int .i64 v) ∧ wx.cell? ⟨g1, 2, none⟩ = some (.int .i64 lo) ∧ wx.cell? ⟨g1, 3, none⟩ = some (.slice A m cA) ∧ wx.cell? ⟨g1, 4, none⟩ = some (.slice B k cB)) ∧ (wx.cell? ⟨g1 + 1, 0, none⟩ = some (.int .i64 kd) ∧ wx.cell? ⟨g1 + 1, 1, none⟩ = some (.int .i64 fr) ∧ wx.cell? ⟨g1 + 1, 2, none⟩ = some (.int .i64 vw) ∧ wx.cell? ⟨g1 + 1, 3, none⟩ = some (.int .i64 sq) ∧ wx.cell? ⟨g1 + 1, 4, none⟩ = some (.string d) ∧ wx.cell? ⟨g1 + 1, 5, none⟩ = some (.string t)) ∧ (wx.cell? ⟨g1 + 1 + 1, 0, none⟩ = some (.int .i64 0) ∧ wx.cell? ⟨g1 + 1 + 1, 1, none⟩ = some (.int .i64 0) ∧ wx.cell? ⟨g1 + 1 + 1, 2, none⟩ = some (.int .i64 0) ∧ wx.cell? ⟨g1 + 1 + 1, 3, none⟩ = some (.slice none 0 0) ∧ wx.cell? ⟨g1 + 1 + 1, 4, none⟩ = some (.slice none 0 0)) ∧ (wx.frozen? ⟨g1 + 1 + 1, 0, none⟩ = false ∧ wx.frozen? ⟨g1 + 1 + 1, 1, none⟩ = false ∧ wx.frozen? ⟨g1 + 1 + 1, 2, none⟩ = false ∧ wx.frozen? ⟨g1 + 1 + 1, 3, none⟩ = false ∧ wx.frozen? ⟨g1 + 1 + 1, 4, none⟩ = false) ∧ (wx.frozen? ⟨g1, 0, none⟩ = false ∧ wx.frozen? ⟨g1, 1, none⟩ = false ∧ wx.frozen? ⟨g1, 2, none⟩ = false ∧ wx.frozen? ⟨g1, 3, none⟩ = false ∧ wx.frozen? ⟨g1, 4, none⟩ = false)) := Lib.hid fun wx hb => by
      have b0 := B0.out.below hb B0.out.lt
      have b1 := B1.out.below hb B1.out.lt
      have b2 := B2.out.below hb B2.out.lt
      exact ⟨⟨b0.cell 0, b0.cell 1, b0.cell 2, b0.cell 3, b0.cell 4⟩, ⟨b1.cell 0, b1.cell 1, b1.cell 2, b1.cell 3, b1.cell 4, b1.cell 5⟩, ⟨b2.cell 0, b2.cell 1, b2.cell 2, b2.cell 3, b2.cell 4⟩, ⟨b2.frozen 0, b2.frozen 1, b2.frozen 2, b2.frozen 3, b2.frozen 4⟩, ⟨b0.frozen 0, b0.frozen 1, b0.frozen 2, b0.frozen 3, b0.frozen 4⟩⟩
    obtain ⟨⟨c0, c1, c2, c3, c4⟩, ⟨s0, s1, s2, s3, s4, s5⟩, ⟨z0, z1, z2, z3, z4⟩, ⟨f0, f1, f2, f3, f4⟩, ⟨e0, e1, e2, e3, e4⟩⟩ := HX.out wy (Below.refl _ _)
    have HGR : Hid (g1 + 1 + 1 < wy.heap.size) := Lib.hid B2.out.lt
    have HMy := Lib.hid (HM.out wy hb0.out)
    go_wp2_with (first
      | (go_at_call 12; (with_reducible refine (HK.out _).mono ?_); rintro e w1 ⟨rfl, rfl⟩)
      | (go_at_call 44; (refine (HMy.out).mono ?_); rintro e wt ⟨A', c', B', cB', L1, rfl, hL1, hbt, hla⟩; have HL1 := Lib.hid hL1; have HBT := Lib.hid hbt; have HLa := Lib.hid hla; clear hL1 hbt hla c0 c1 c2 c3 c4 s0 s1 s2 s3 s4 s5 z0 z1 z2 z3 z4 f0 f1 f2 f3 f4 e0 e1 e2 e3 e4; obtain ⟨⟨c0, c1, c2, c3, c4⟩, ⟨s0, s1, s2, s3, s4, s5⟩, ⟨z0, z1, z2, z3, z4⟩, ⟨f0, f1, f2, f3, f4⟩, ⟨e0, e1, e2, e3, e4⟩⟩ := HX.out wt HBT.out))
    (try simp only [Exit.inBlock, Exit.then])
    refine bodyPost_ret (by simp [results, Try.results32, asAddr, go_sem, z0, z1, z2, z3, z4]; rfl) rfl ?_
    exact rtold rfl rfl rfl rfl rfl HL1.out (below_five (B := w.heap.size) (g := g1 + 1 + 1) (below_next hb0.out HBT.out) (by rw [HG.out]; omega) _ _ _ _ _) (HLa.out.call (by rw [HG.out]; omega) HGR.out _ _ _ _ _)
  · have HE2 := HE.out
    rw [hkd] at HE2 HK
    rw [HE2, if_neg (by decide), if_pos rfl]
    clear HE HE2 hk6
    have HM := Lib.hid (fun wx (hb : Below w.heap.size w wx) => rpropose_calls wx A B cA cB y L0 hL0 (h.below hb) (hk.below hb) hlo hlen hkl hn vw sq d t)
    generalize y.propose vw sq d t = r at HM ⊢
    have HL0 := Lib.hid hL0
    obtain ⟨m, hm⟩ : ∃ m, Hid (y.L.length = m) := ⟨_, Lib.hid rfl⟩
    obtain ⟨k, hkk⟩ : ∃ k, Hid (y.kept.length = k) := ⟨_, Lib.hid rfl⟩
    obtain ⟨n, hnn⟩ : ∃ n, Hid (y.n = n) := ⟨_, Lib.hid rfl⟩
    obtain ⟨v, hv⟩ : ∃ v, Hid (y.view = v) := ⟨_, Lib.hid rfl⟩
    obtain ⟨lo, hl⟩ : ∃ lo, Hid (y.low = lo) := ⟨_, Lib.hid rfl⟩
    rw [hnn.out, hv.out, hl.out, hm.out, hkk.out] at HM
    rw [hm.out, hkk.out, hnn.out, hv.out, hl.out]
    clear h hk hlo hlen hkl hn hL0
    have hb0 : Hid (Below w.heap.size w (((w.alloc (.cells #[.int .i64 n, .int .i64 v, .int .i64 lo, .slice A m cA, .slice B k cB] 65)).alloc (.cells #[.int .i64 kd, .int .i64 fr, .int .i64 vw, .int .i64 sq, .string d, .string t] 32)).alloc (.cells #[.int .i64 0, .int .i64 0, .int .i64 0, .slice none 0 0, .slice none 0 0] 65))) := Lib.hid ((((Below.refl _ _).alloc (Nat.le_refl _) _).alloc (by simp) _).alloc (by simp; omega) _)
    have B0 : Hid (Blk (((w.alloc (.cells #[.int .i64 n, .int .i64 v, .int .i64 lo, .slice A m cA, .slice B k cB] 65)).alloc (.cells #[.int .i64 kd, .int .i64 fr, .int .i64 vw, .int .i64 sq, .string d, .string t] 32)).alloc (.cells #[.int .i64 0, .int .i64 0, .int .i64 0, .slice none 0 0, .slice none 0 0] 65)) w.heap.size 65 #[.int .i64 n, .int .i64 v, .int .i64 lo, .slice A m cA, .slice B k cB]) := Lib.hid (((Blk.new w 65 #[.int .i64 n, .int .i64 v, .int .i64 lo, .slice A m cA, .slice B k cB]).alloc (.cells #[.int .i64 kd, .int .i64 fr, .int .i64 vw, .int .i64 sq, .string d, .string t] 32)).alloc (.cells #[.int .i64 0, .int .i64 0, .int .i64 0, .slice none 0 0, .slice none 0 0] 65))
    have B1 : Hid (Blk (((w.alloc (.cells #[.int .i64 n, .int .i64 v, .int .i64 lo, .slice A m cA, .slice B k cB] 65)).alloc (.cells #[.int .i64 kd, .int .i64 fr, .int .i64 vw, .int .i64 sq, .string d, .string t] 32)).alloc (.cells #[.int .i64 0, .int .i64 0, .int .i64 0, .slice none 0 0, .slice none 0 0] 65)) (w.heap.size + 1) 32 #[.int .i64 kd, .int .i64 fr, .int .i64 vw, .int .i64 sq, .string d, .string t]) := Lib.hid (by have := ((Blk.new (w.alloc (.cells #[.int .i64 n, .int .i64 v, .int .i64 lo, .slice A m cA, .slice B k cB] 65)) 32 #[.int .i64 kd, .int .i64 fr, .int .i64 vw, .int .i64 sq, .string d, .string t]).alloc (.cells #[.int .i64 0, .int .i64 0, .int .i64 0, .slice none 0 0, .slice none 0 0] 65)); simpa using this)
    have B2 : Hid (Blk (((w.alloc (.cells #[.int .i64 n, .int .i64 v, .int .i64 lo, .slice A m cA, .slice B k cB] 65)).alloc (.cells #[.int .i64 kd, .int .i64 fr, .int .i64 vw, .int .i64 sq, .string d, .string t] 32)).alloc (.cells #[.int .i64 0, .int .i64 0, .int .i64 0, .slice none 0 0, .slice none 0 0] 65)) (w.heap.size + 1 + 1) 65 #[.int .i64 0, .int .i64 0, .int .i64 0, .slice none 0 0, .slice none 0 0]) := Lib.hid (by have := (Blk.new ((w.alloc (.cells #[.int .i64 n, .int .i64 v, .int .i64 lo, .slice A m cA, .slice B k cB] 65)).alloc (.cells #[.int .i64 kd, .int .i64 fr, .int .i64 vw, .int .i64 sq, .string d, .string t] 32)) 65 #[.int .i64 0, .int .i64 0, .int .i64 0, .slice none 0 0, .slice none 0 0]); simpa using this)
    go_enter Try.func32, Try.ntmps32
    go_upto_region 1 with (fail)
    obtain ⟨g1, hg1⟩ : ∃ g1, w.heap.size = g1 := ⟨_, rfl⟩
    have HG := Lib.hid hg1
    rw [hg1] at B0 B1 B2 ⊢
    clear hg1
    generalize World.alloc (World.alloc (World.alloc w _) _) _ = wy at hb0 B0 B1 B2 ⊢
    have HX : Hid (∀ wx : World, Below wy.heap.size wy wx → (wx.cell? ⟨g1, 0, none⟩ = some (.int .i64 n) ∧ wx.cell? ⟨g1, 1, none⟩ = some (.int .i64 v) ∧ wx.cell? ⟨g1, 2, none⟩ = some (.int .i64 lo) ∧ wx.cell? ⟨g1, 3, none⟩ = some (.slice A m cA) ∧ wx.cell? ⟨g1, 4, none⟩ = some (.slice B k cB)) ∧ (wx.cell? ⟨g1 + 1, 0, none⟩ = some (.int .i64 kd) ∧ wx.cell? ⟨g1 + 1, 1, none⟩ = some (.int .i64 fr) ∧ wx.cell? ⟨g1 + 1, 2, none⟩ = some (.int .i64 vw) ∧ wx.cell? ⟨g1 + 1, 3, none⟩ = some (.int .i64 sq) ∧ wx.cell? ⟨g1 + 1, 4, none⟩ = some (.string d) ∧ wx.cell? ⟨g1 + 1, 5, none⟩ = some (.string t)) ∧ (wx.cell? ⟨g1 + 1 + 1, 0, none⟩ = some (.int .i64 0) ∧ wx.cell? ⟨g1 + 1 + 1, 1, none⟩ = some (.int .i64 0) ∧ wx.cell? ⟨g1 + 1 + 1, 2, none⟩ = some (.int .i64 0) ∧ wx.cell? ⟨g1 + 1 + 1, 3, none⟩ = some (.slice none 0 0) ∧ wx.cell? ⟨g1 + 1 + 1, 4, none⟩ = some (.slice none 0 0)) ∧ (wx.frozen? ⟨g1 + 1 + 1, 0, none⟩ = false ∧ wx.frozen? ⟨g1 + 1 + 1, 1, none⟩ = false ∧ wx.frozen? ⟨g1 + 1 + 1, 2, none⟩ = false ∧ wx.frozen? ⟨g1 + 1 + 1, 3, none⟩ = false ∧ wx.frozen? ⟨g1 + 1 + 1, 4, none⟩ = false) ∧ (wx.frozen? ⟨g1, 0, none⟩ = false ∧ wx.frozen? ⟨g1, 1, none⟩ = false ∧ wx.frozen? ⟨g1, 2, none⟩ = false ∧ wx.frozen? ⟨g1, 3, none⟩ = false ∧ wx.frozen? ⟨g1, 4, none⟩ = false)) := Lib.hid fun wx hb => by
      have b0 := B0.out.below hb B0.out.lt
      have b1 := B1.out.below hb B1.out.lt
      have b2 := B2.out.below hb B2.out.lt
      exact ⟨⟨b0.cell 0, b0.cell 1, b0.cell 2, b0.cell 3, b0.cell 4⟩, ⟨b1.cell 0, b1.cell 1, b1.cell 2, b1.cell 3, b1.cell 4, b1.cell 5⟩, ⟨b2.cell 0, b2.cell 1, b2.cell 2, b2.cell 3, b2.cell 4⟩, ⟨b2.frozen 0, b2.frozen 1, b2.frozen 2, b2.frozen 3, b2.frozen 4⟩, ⟨b0.frozen 0, b0.frozen 1, b0.frozen 2, b0.frozen 3, b0.frozen 4⟩⟩
    obtain ⟨⟨c0, c1, c2, c3, c4⟩, ⟨s0, s1, s2, s3, s4, s5⟩, ⟨z0, z1, z2, z3, z4⟩, ⟨f0, f1, f2, f3, f4⟩, ⟨e0, e1, e2, e3, e4⟩⟩ := HX.out wy (Below.refl _ _)
    have HGR : Hid (g1 + 1 + 1 < wy.heap.size) := Lib.hid B2.out.lt
    have HMy := Lib.hid (HM.out wy hb0.out)
    go_wp2_with (first
      | (go_at_call 12; (with_reducible refine (HK.out _).mono ?_); rintro e w1 ⟨rfl, rfl⟩)
      | (go_at_call 45; (refine (HMy.out).mono ?_); rintro e wt ⟨A', c', B', cB', L1, rfl, hL1, hbt, hla⟩; have HL1 := Lib.hid hL1; have HBT := Lib.hid hbt; have HLa := Lib.hid hla; clear hL1 hbt hla c0 c1 c2 c3 c4 s0 s1 s2 s3 s4 s5 z0 z1 z2 z3 z4 f0 f1 f2 f3 f4 e0 e1 e2 e3 e4; obtain ⟨⟨c0, c1, c2, c3, c4⟩, ⟨s0, s1, s2, s3, s4, s5⟩, ⟨z0, z1, z2, z3, z4⟩, ⟨f0, f1, f2, f3, f4⟩, ⟨e0, e1, e2, e3, e4⟩⟩ := HX.out wt HBT.out))
    (try simp only [Exit.inBlock, Exit.then])
    refine bodyPost_ret (by simp [results, Try.results32, asAddr, go_sem, z0, z1, z2, z3, z4]; rfl) rfl ?_
    exact rtold rfl rfl rfl rfl rfl HL1.out (below_five (B := w.heap.size) (g := g1 + 1 + 1) (below_next hb0.out HBT.out) (by rw [HG.out]; omega) _ _ _ _ _) (HLa.out.call (by rw [HG.out]; omega) HGR.out _ _ _ _ _)
  · have HE2 := HE.out
    rw [hkd] at HE2 HK
    rw [HE2, if_neg (by decide), if_neg (by decide), if_pos rfl]
    clear HE HE2 hk6
    have HM := Lib.hid (fun wx (hb : Below w.heap.size w wx) => rvote3_calls wx A B cA cB y L0 hL0 (h.below hb) (hk.below hb) hlo hlen hkl hn fr t ⟨#[115]⟩ vw sq d)
    generalize y.vote ⟨fr, t, ⟨#[115]⟩⟩ 3 vw sq d = r at HM ⊢
    have HL0 := Lib.hid hL0
    obtain ⟨m, hm⟩ : ∃ m, Hid (y.L.length = m) := ⟨_, Lib.hid rfl⟩
    obtain ⟨k, hkk⟩ : ∃ k, Hid (y.kept.length = k) := ⟨_, Lib.hid rfl⟩
    obtain ⟨n, hnn⟩ : ∃ n, Hid (y.n = n) := ⟨_, Lib.hid rfl⟩
    obtain ⟨v, hv⟩ : ∃ v, Hid (y.view = v) := ⟨_, Lib.hid rfl⟩
    obtain ⟨lo, hl⟩ : ∃ lo, Hid (y.low = lo) := ⟨_, Lib.hid rfl⟩
    rw [hnn.out, hv.out, hl.out, hm.out, hkk.out] at HM
    rw [hm.out, hkk.out, hnn.out, hv.out, hl.out]
    clear h hk hlo hlen hkl hn hL0
    have hb0 : Hid (Below w.heap.size w (((w.alloc (.cells #[.int .i64 n, .int .i64 v, .int .i64 lo, .slice A m cA, .slice B k cB] 65)).alloc (.cells #[.int .i64 kd, .int .i64 fr, .int .i64 vw, .int .i64 sq, .string d, .string t] 32)).alloc (.cells #[.int .i64 0, .int .i64 0, .int .i64 0, .slice none 0 0, .slice none 0 0] 65))) := Lib.hid ((((Below.refl _ _).alloc (Nat.le_refl _) _).alloc (by simp) _).alloc (by simp; omega) _)
    have B0 : Hid (Blk (((w.alloc (.cells #[.int .i64 n, .int .i64 v, .int .i64 lo, .slice A m cA, .slice B k cB] 65)).alloc (.cells #[.int .i64 kd, .int .i64 fr, .int .i64 vw, .int .i64 sq, .string d, .string t] 32)).alloc (.cells #[.int .i64 0, .int .i64 0, .int .i64 0, .slice none 0 0, .slice none 0 0] 65)) w.heap.size 65 #[.int .i64 n, .int .i64 v, .int .i64 lo, .slice A m cA, .slice B k cB]) := Lib.hid (((Blk.new w 65 #[.int .i64 n, .int .i64 v, .int .i64 lo, .slice A m cA, .slice B k cB]).alloc (.cells #[.int .i64 kd, .int .i64 fr, .int .i64 vw, .int .i64 sq, .string d, .string t] 32)).alloc (.cells #[.int .i64 0, .int .i64 0, .int .i64 0, .slice none 0 0, .slice none 0 0] 65))
    have B1 : Hid (Blk (((w.alloc (.cells #[.int .i64 n, .int .i64 v, .int .i64 lo, .slice A m cA, .slice B k cB] 65)).alloc (.cells #[.int .i64 kd, .int .i64 fr, .int .i64 vw, .int .i64 sq, .string d, .string t] 32)).alloc (.cells #[.int .i64 0, .int .i64 0, .int .i64 0, .slice none 0 0, .slice none 0 0] 65)) (w.heap.size + 1) 32 #[.int .i64 kd, .int .i64 fr, .int .i64 vw, .int .i64 sq, .string d, .string t]) := Lib.hid (by have := ((Blk.new (w.alloc (.cells #[.int .i64 n, .int .i64 v, .int .i64 lo, .slice A m cA, .slice B k cB] 65)) 32 #[.int .i64 kd, .int .i64 fr, .int .i64 vw, .int .i64 sq, .string d, .string t]).alloc (.cells #[.int .i64 0, .int .i64 0, .int .i64 0, .slice none 0 0, .slice none 0 0] 65)); simpa using this)
    have B2 : Hid (Blk (((w.alloc (.cells #[.int .i64 n, .int .i64 v, .int .i64 lo, .slice A m cA, .slice B k cB] 65)).alloc (.cells #[.int .i64 kd, .int .i64 fr, .int .i64 vw, .int .i64 sq, .string d, .string t] 32)).alloc (.cells #[.int .i64 0, .int .i64 0, .int .i64 0, .slice none 0 0, .slice none 0 0] 65)) (w.heap.size + 1 + 1) 65 #[.int .i64 0, .int .i64 0, .int .i64 0, .slice none 0 0, .slice none 0 0]) := Lib.hid (by have := (Blk.new ((w.alloc (.cells #[.int .i64 n, .int .i64 v, .int .i64 lo, .slice A m cA, .slice B k cB] 65)).alloc (.cells #[.int .i64 kd, .int .i64 fr, .int .i64 vw, .int .i64 sq, .string d, .string t] 32)) 65 #[.int .i64 0, .int .i64 0, .int .i64 0, .slice none 0 0, .slice none 0 0]); simpa using this)
    go_enter Try.func32, Try.ntmps32
    go_upto_region 1 with (fail)
    obtain ⟨g1, hg1⟩ : ∃ g1, w.heap.size = g1 := ⟨_, rfl⟩
    have HG := Lib.hid hg1
    rw [hg1] at B0 B1 B2 ⊢
    clear hg1
    generalize World.alloc (World.alloc (World.alloc w _) _) _ = wy at hb0 B0 B1 B2 ⊢
    have HX : Hid (∀ wx : World, Below wy.heap.size wy wx → (wx.cell? ⟨g1, 0, none⟩ = some (.int .i64 n) ∧ wx.cell? ⟨g1, 1, none⟩ = some (.int .i64 v) ∧ wx.cell? ⟨g1, 2, none⟩ = some (.int .i64 lo) ∧ wx.cell? ⟨g1, 3, none⟩ = some (.slice A m cA) ∧ wx.cell? ⟨g1, 4, none⟩ = some (.slice B k cB)) ∧ (wx.cell? ⟨g1 + 1, 0, none⟩ = some (.int .i64 kd) ∧ wx.cell? ⟨g1 + 1, 1, none⟩ = some (.int .i64 fr) ∧ wx.cell? ⟨g1 + 1, 2, none⟩ = some (.int .i64 vw) ∧ wx.cell? ⟨g1 + 1, 3, none⟩ = some (.int .i64 sq) ∧ wx.cell? ⟨g1 + 1, 4, none⟩ = some (.string d) ∧ wx.cell? ⟨g1 + 1, 5, none⟩ = some (.string t)) ∧ (wx.cell? ⟨g1 + 1 + 1, 0, none⟩ = some (.int .i64 0) ∧ wx.cell? ⟨g1 + 1 + 1, 1, none⟩ = some (.int .i64 0) ∧ wx.cell? ⟨g1 + 1 + 1, 2, none⟩ = some (.int .i64 0) ∧ wx.cell? ⟨g1 + 1 + 1, 3, none⟩ = some (.slice none 0 0) ∧ wx.cell? ⟨g1 + 1 + 1, 4, none⟩ = some (.slice none 0 0)) ∧ (wx.frozen? ⟨g1 + 1 + 1, 0, none⟩ = false ∧ wx.frozen? ⟨g1 + 1 + 1, 1, none⟩ = false ∧ wx.frozen? ⟨g1 + 1 + 1, 2, none⟩ = false ∧ wx.frozen? ⟨g1 + 1 + 1, 3, none⟩ = false ∧ wx.frozen? ⟨g1 + 1 + 1, 4, none⟩ = false) ∧ (wx.frozen? ⟨g1, 0, none⟩ = false ∧ wx.frozen? ⟨g1, 1, none⟩ = false ∧ wx.frozen? ⟨g1, 2, none⟩ = false ∧ wx.frozen? ⟨g1, 3, none⟩ = false ∧ wx.frozen? ⟨g1, 4, none⟩ = false)) := Lib.hid fun wx hb => by
      have b0 := B0.out.below hb B0.out.lt
      have b1 := B1.out.below hb B1.out.lt
      have b2 := B2.out.below hb B2.out.lt
      exact ⟨⟨b0.cell 0, b0.cell 1, b0.cell 2, b0.cell 3, b0.cell 4⟩, ⟨b1.cell 0, b1.cell 1, b1.cell 2, b1.cell 3, b1.cell 4, b1.cell 5⟩, ⟨b2.cell 0, b2.cell 1, b2.cell 2, b2.cell 3, b2.cell 4⟩, ⟨b2.frozen 0, b2.frozen 1, b2.frozen 2, b2.frozen 3, b2.frozen 4⟩, ⟨b0.frozen 0, b0.frozen 1, b0.frozen 2, b0.frozen 3, b0.frozen 4⟩⟩
    obtain ⟨⟨c0, c1, c2, c3, c4⟩, ⟨s0, s1, s2, s3, s4, s5⟩, ⟨z0, z1, z2, z3, z4⟩, ⟨f0, f1, f2, f3, f4⟩, ⟨e0, e1, e2, e3, e4⟩⟩ := HX.out wy (Below.refl _ _)
    have HGR : Hid (g1 + 1 + 1 < wy.heap.size) := Lib.hid B2.out.lt
    have HMs := Lib.hid (fun w => message_calls kd fr vw sq d t w)
    have HDs := Lib.hid (fun w => body2_calls kd fr vw sq d t w hkd)
    go_upto_region 8 with (first
      | (go_at_call 12; (with_reducible refine (HK.out _).mono ?_); rintro e w1 ⟨rfl, rfl⟩))
    clear c0 c1 c2 c3 c4 s0 s1 s2 s3 s4 s5 z0 z1 z2 z3 z4 f0 f1 f2 f3 f4 e0 e1 e2 e3 e4 HK
    have Hd0 : Hid (Below wy.heap.size wy wy.drew) := Lib.hid (Below.refl _ _).drew
    have HS : Hid (∀ W : World, Below wy.heap.size wy W → (W.cell? ⟨g1, 0, none⟩ = some (.int .i64 n) ∧ W.cell? ⟨g1, 1, none⟩ = some (.int .i64 v) ∧ W.cell? ⟨g1, 2, none⟩ = some (.int .i64 lo) ∧ W.cell? ⟨g1, 3, none⟩ = some (.slice A m cA) ∧ W.cell? ⟨g1, 4, none⟩ = some (.slice B k cB)) ∧ (W.cell? ⟨g1 + 1, 0, none⟩ = some (.int .i64 kd) ∧ W.cell? ⟨g1 + 1, 1, none⟩ = some (.int .i64 fr) ∧ W.cell? ⟨g1 + 1, 2, none⟩ = some (.int .i64 vw) ∧ W.cell? ⟨g1 + 1, 3, none⟩ = some (.int .i64 sq) ∧ W.cell? ⟨g1 + 1, 4, none⟩ = some (.string d) ∧ W.cell? ⟨g1 + 1, 5, none⟩ = some (.string t)) ∧ (W.cell? ⟨g1 + 1 + 1, 0, none⟩ = some (.int .i64 0) ∧ W.cell? ⟨g1 + 1 + 1, 1, none⟩ = some (.int .i64 0) ∧ W.cell? ⟨g1 + 1 + 1, 2, none⟩ = some (.int .i64 0) ∧ W.cell? ⟨g1 + 1 + 1, 3, none⟩ = some (.slice none 0 0) ∧ W.cell? ⟨g1 + 1 + 1, 4, none⟩ = some (.slice none 0 0)) ∧ (W.frozen? ⟨g1 + 1 + 1, 0, none⟩ = false ∧ W.frozen? ⟨g1 + 1 + 1, 1, none⟩ = false ∧ W.frozen? ⟨g1 + 1 + 1, 2, none⟩ = false ∧ W.frozen? ⟨g1 + 1 + 1, 3, none⟩ = false ∧ W.frozen? ⟨g1 + 1 + 1, 4, none⟩ = false)) := Lib.hid fun W hW => by
      obtain ⟨h1, h2, h3, h4, -⟩ := HX.out W hW
      exact ⟨h1, h2, h3, h4⟩
    have HS5 : Hid (∀ (W : World) u0 u1 u2 u3 u4, Below wy.heap.size wy W → ((((((W.setCell ⟨g1 + 1 + 1, 0, none⟩ u0).setCell ⟨g1 + 1 + 1, 1, none⟩ u1).setCell ⟨g1 + 1 + 1, 2, none⟩ u2).setCell ⟨g1 + 1 + 1, 3, none⟩ u3).setCell ⟨g1 + 1 + 1, 4, none⟩ u4).cell? ⟨g1, 0, none⟩ = some (.int .i64 n) ∧ (((((W.setCell ⟨g1 + 1 + 1, 0, none⟩ u0).setCell ⟨g1 + 1 + 1, 1, none⟩ u1).setCell ⟨g1 + 1 + 1, 2, none⟩ u2).setCell ⟨g1 + 1 + 1, 3, none⟩ u3).setCell ⟨g1 + 1 + 1, 4, none⟩ u4).cell? ⟨g1, 1, none⟩ = some (.int .i64 v) ∧ (((((W.setCell ⟨g1 + 1 + 1, 0, none⟩ u0).setCell ⟨g1 + 1 + 1, 1, none⟩ u1).setCell ⟨g1 + 1 + 1, 2, none⟩ u2).setCell ⟨g1 + 1 + 1, 3, none⟩ u3).setCell ⟨g1 + 1 + 1, 4, none⟩ u4).cell? ⟨g1, 2, none⟩ = some (.int .i64 lo) ∧ (((((W.setCell ⟨g1 + 1 + 1, 0, none⟩ u0).setCell ⟨g1 + 1 + 1, 1, none⟩ u1).setCell ⟨g1 + 1 + 1, 2, none⟩ u2).setCell ⟨g1 + 1 + 1, 3, none⟩ u3).setCell ⟨g1 + 1 + 1, 4, none⟩ u4).cell? ⟨g1, 3, none⟩ = some (.slice A m cA) ∧ (((((W.setCell ⟨g1 + 1 + 1, 0, none⟩ u0).setCell ⟨g1 + 1 + 1, 1, none⟩ u1).setCell ⟨g1 + 1 + 1, 2, none⟩ u2).setCell ⟨g1 + 1 + 1, 3, none⟩ u3).setCell ⟨g1 + 1 + 1, 4, none⟩ u4).cell? ⟨g1, 4, none⟩ = some (.slice B k cB)) ∧ ((((((W.setCell ⟨g1 + 1 + 1, 0, none⟩ u0).setCell ⟨g1 + 1 + 1, 1, none⟩ u1).setCell ⟨g1 + 1 + 1, 2, none⟩ u2).setCell ⟨g1 + 1 + 1, 3, none⟩ u3).setCell ⟨g1 + 1 + 1, 4, none⟩ u4).cell? ⟨g1 + 1, 0, none⟩ = some (.int .i64 kd) ∧ (((((W.setCell ⟨g1 + 1 + 1, 0, none⟩ u0).setCell ⟨g1 + 1 + 1, 1, none⟩ u1).setCell ⟨g1 + 1 + 1, 2, none⟩ u2).setCell ⟨g1 + 1 + 1, 3, none⟩ u3).setCell ⟨g1 + 1 + 1, 4, none⟩ u4).cell? ⟨g1 + 1, 1, none⟩ = some (.int .i64 fr) ∧ (((((W.setCell ⟨g1 + 1 + 1, 0, none⟩ u0).setCell ⟨g1 + 1 + 1, 1, none⟩ u1).setCell ⟨g1 + 1 + 1, 2, none⟩ u2).setCell ⟨g1 + 1 + 1, 3, none⟩ u3).setCell ⟨g1 + 1 + 1, 4, none⟩ u4).cell? ⟨g1 + 1, 2, none⟩ = some (.int .i64 vw) ∧ (((((W.setCell ⟨g1 + 1 + 1, 0, none⟩ u0).setCell ⟨g1 + 1 + 1, 1, none⟩ u1).setCell ⟨g1 + 1 + 1, 2, none⟩ u2).setCell ⟨g1 + 1 + 1, 3, none⟩ u3).setCell ⟨g1 + 1 + 1, 4, none⟩ u4).cell? ⟨g1 + 1, 3, none⟩ = some (.int .i64 sq) ∧ (((((W.setCell ⟨g1 + 1 + 1, 0, none⟩ u0).setCell ⟨g1 + 1 + 1, 1, none⟩ u1).setCell ⟨g1 + 1 + 1, 2, none⟩ u2).setCell ⟨g1 + 1 + 1, 3, none⟩ u3).setCell ⟨g1 + 1 + 1, 4, none⟩ u4).cell? ⟨g1 + 1, 4, none⟩ = some (.string d) ∧ (((((W.setCell ⟨g1 + 1 + 1, 0, none⟩ u0).setCell ⟨g1 + 1 + 1, 1, none⟩ u1).setCell ⟨g1 + 1 + 1, 2, none⟩ u2).setCell ⟨g1 + 1 + 1, 3, none⟩ u3).setCell ⟨g1 + 1 + 1, 4, none⟩ u4).cell? ⟨g1 + 1, 5, none⟩ = some (.string t))) := Lib.hid fun W u0 u1 u2 u3 u4 hW => by
      have b0 : Blk (((((W.setCell ⟨g1 + 1 + 1, 0, none⟩ u0).setCell ⟨g1 + 1 + 1, 1, none⟩ u1).setCell ⟨g1 + 1 + 1, 2, none⟩ u2).setCell ⟨g1 + 1 + 1, 3, none⟩ u3).setCell ⟨g1 + 1 + 1, 4, none⟩ u4) g1 65 #[.int .i64 n, .int .i64 v, .int .i64 lo, .slice A m cA, .slice B k cB] := (((((B0.out.below hW B0.out.lt).far (by omega) _).far (by omega) _).far (by omega) _).far (by omega) _).far (by omega) _
      have b1 : Blk (((((W.setCell ⟨g1 + 1 + 1, 0, none⟩ u0).setCell ⟨g1 + 1 + 1, 1, none⟩ u1).setCell ⟨g1 + 1 + 1, 2, none⟩ u2).setCell ⟨g1 + 1 + 1, 3, none⟩ u3).setCell ⟨g1 + 1 + 1, 4, none⟩ u4) (g1 + 1) 32 #[.int .i64 kd, .int .i64 fr, .int .i64 vw, .int .i64 sq, .string d, .string t] := (((((B1.out.below hW B1.out.lt).far (by omega) _).far (by omega) _).far (by omega) _).far (by omega) _).far (by omega) _
      exact ⟨⟨b0.cell 0, b0.cell 1, b0.cell 2, b0.cell 3, b0.cell 4⟩, b1.cell 0, b1.cell 1, b1.cell 2, b1.cell 3, b1.cell 4, b1.cell 5⟩
    have HMw := Lib.hid (fun wx (hx : Below wy.heap.size wy wx) => HM.out wx (below_next hb0.out hx))
    obtain ⟨⟨z0, z1, z2, z3, z4⟩, _⟩ : (wy.cell? ⟨g1 + 1 + 1, 0, none⟩ = some (.int .i64 0) ∧ wy.cell? ⟨g1 + 1 + 1, 1, none⟩ = some (.int .i64 0) ∧ wy.cell? ⟨g1 + 1 + 1, 2, none⟩ = some (.int .i64 0) ∧ wy.cell? ⟨g1 + 1 + 1, 3, none⟩ = some (.slice none 0 0) ∧ wy.cell? ⟨g1 + 1 + 1, 4, none⟩ = some (.slice none 0 0)) ∧ True := ⟨(HS.out wy (Below.refl _ _)).2.2.1, trivial⟩
    clear z0 z1 z2 z3 z4
    go_region_held3 (fun w' => (w'.cell? ⟨g1, 0, none⟩ = some (.int .i64 n) ∧ w'.cell? ⟨g1, 1, none⟩ = some (.int .i64 v) ∧ w'.cell? ⟨g1, 2, none⟩ = some (.int .i64 lo) ∧ w'.cell? ⟨g1, 3, none⟩ = some (.slice A m cA) ∧ w'.cell? ⟨g1, 4, none⟩ = some (.slice B k cB)) ∧ (w'.cell? ⟨g1 + 1, 0, none⟩ = some (.int .i64 kd) ∧ w'.cell? ⟨g1 + 1, 1, none⟩ = some (.int .i64 fr) ∧ w'.cell? ⟨g1 + 1, 2, none⟩ = some (.int .i64 vw) ∧ w'.cell? ⟨g1 + 1, 3, none⟩ = some (.int .i64 sq) ∧ w'.cell? ⟨g1 + 1, 4, none⟩ = some (.string d) ∧ w'.cell? ⟨g1 + 1, 5, none⟩ = some (.string t)))
      (first | (with_reducible exact ⟨(HS.out _ Hd0.out).1, (HS.out _ Hd0.out).2.1⟩) | (with_reducible exact ⟨(HS.out _ (below_next Hd0.out hbm.out)).1, (HS.out _ (below_next Hd0.out hbm.out)).2.1⟩) | (with_reducible exact ⟨(HS.out _ (below_next Hd0.out hbd.out)).1, (HS.out _ (below_next Hd0.out hbd.out)).2.1⟩) | (with_reducible exact ⟨(HS.out _ hbb.out).1, (HS.out _ hbb.out).2.1⟩) | (with_reducible exact ⟨(HS.out _ hbv.out).1, (HS.out _ hbv.out).2.1⟩) | (with_reducible exact HS5.out _ _ _ _ _ _ hbv.out) | fail)
      (first
        | (go_at_call 38; (with_reducible refine (HMs.out _).mono ?_); rintro e wm ⟨rfl, hh⟩; have hbm := Lib.hid hh; clear hh; (try (have hbb := Lib.hid (below_next (below_next Hd0.out hbd.out) hbm.out))))
        | (go_at_call 39; (with_reducible refine (HDs.out _).mono ?_); rintro e wd ⟨rfl, hh⟩; have hbd := Lib.hid hh; clear hh; (try (have hbb := Lib.hid (below_next (below_next Hd0.out hbm.out) hbd.out))))
        | (go_at_call 46; (refine (HMw.out _ hbb.out).mono ?_); rintro e wt ⟨A', c', B', cB', L1, rfl, hL1, hbt, hla⟩; have HL1 := Lib.hid hL1; have hbv := Lib.hid (below_next hbb.out hbt); have HLa := Lib.hid hla; clear hL1 hbt hla; obtain ⟨-, -, ⟨z0, z1, z2, z3, z4⟩, f0, f1, f2, f3, f4⟩ := HS.out wt hbv.out))
    all_goals
      go_wp2
      (try simp only [Exit.inBlock, Exit.then])
      refine bodyPost_ret (by simp [results, Try.results32, asAddr, go_sem, z0, z1, z2, z3, z4]; rfl) rfl ?_
      exact rtold rfl rfl rfl rfl rfl HL1.out (below_five (B := w.heap.size) (g := g1 + 1 + 1) (below_next hb0.out hbv.out) (by rw [HG.out]; omega) _ _ _ _ _) (HLa.out.call (by rw [HG.out]; omega) (Nat.lt_of_lt_of_le HGR.out hbb.out.size) _ _ _ _ _)
  · have HE2 := HE.out
    rw [hkd] at HE2 HK
    rw [HE2, if_neg (by decide), if_neg (by decide), if_neg (by decide), if_pos rfl]
    clear HE HE2 hk6
    have HM := Lib.hid (fun wx (hb : Below w.heap.size w wx) => rvote4_calls wx A B cA cB y L0 hL0 (h.below hb) (hk.below hb) hlo hlen hkl hn fr t ⟨#[115]⟩ vw sq d)
    generalize y.vote ⟨fr, t, ⟨#[115]⟩⟩ 4 vw sq d = r at HM ⊢
    have HL0 := Lib.hid hL0
    obtain ⟨m, hm⟩ : ∃ m, Hid (y.L.length = m) := ⟨_, Lib.hid rfl⟩
    obtain ⟨k, hkk⟩ : ∃ k, Hid (y.kept.length = k) := ⟨_, Lib.hid rfl⟩
    obtain ⟨n, hnn⟩ : ∃ n, Hid (y.n = n) := ⟨_, Lib.hid rfl⟩
    obtain ⟨v, hv⟩ : ∃ v, Hid (y.view = v) := ⟨_, Lib.hid rfl⟩
    obtain ⟨lo, hl⟩ : ∃ lo, Hid (y.low = lo) := ⟨_, Lib.hid rfl⟩
    rw [hnn.out, hv.out, hl.out, hm.out, hkk.out] at HM
    rw [hm.out, hkk.out, hnn.out, hv.out, hl.out]
    clear h hk hlo hlen hkl hn hL0
    have hb0 : Hid (Below w.heap.size w (((w.alloc (.cells #[.int .i64 n, .int .i64 v, .int .i64 lo, .slice A m cA, .slice B k cB] 65)).alloc (.cells #[.int .i64 kd, .int .i64 fr, .int .i64 vw, .int .i64 sq, .string d, .string t] 32)).alloc (.cells #[.int .i64 0, .int .i64 0, .int .i64 0, .slice none 0 0, .slice none 0 0] 65))) := Lib.hid ((((Below.refl _ _).alloc (Nat.le_refl _) _).alloc (by simp) _).alloc (by simp; omega) _)
    have B0 : Hid (Blk (((w.alloc (.cells #[.int .i64 n, .int .i64 v, .int .i64 lo, .slice A m cA, .slice B k cB] 65)).alloc (.cells #[.int .i64 kd, .int .i64 fr, .int .i64 vw, .int .i64 sq, .string d, .string t] 32)).alloc (.cells #[.int .i64 0, .int .i64 0, .int .i64 0, .slice none 0 0, .slice none 0 0] 65)) w.heap.size 65 #[.int .i64 n, .int .i64 v, .int .i64 lo, .slice A m cA, .slice B k cB]) := Lib.hid (((Blk.new w 65 #[.int .i64 n, .int .i64 v, .int .i64 lo, .slice A m cA, .slice B k cB]).alloc (.cells #[.int .i64 kd, .int .i64 fr, .int .i64 vw, .int .i64 sq, .string d, .string t] 32)).alloc (.cells #[.int .i64 0, .int .i64 0, .int .i64 0, .slice none 0 0, .slice none 0 0] 65))
    have B1 : Hid (Blk (((w.alloc (.cells #[.int .i64 n, .int .i64 v, .int .i64 lo, .slice A m cA, .slice B k cB] 65)).alloc (.cells #[.int .i64 kd, .int .i64 fr, .int .i64 vw, .int .i64 sq, .string d, .string t] 32)).alloc (.cells #[.int .i64 0, .int .i64 0, .int .i64 0, .slice none 0 0, .slice none 0 0] 65)) (w.heap.size + 1) 32 #[.int .i64 kd, .int .i64 fr, .int .i64 vw, .int .i64 sq, .string d, .string t]) := Lib.hid (by have := ((Blk.new (w.alloc (.cells #[.int .i64 n, .int .i64 v, .int .i64 lo, .slice A m cA, .slice B k cB] 65)) 32 #[.int .i64 kd, .int .i64 fr, .int .i64 vw, .int .i64 sq, .string d, .string t]).alloc (.cells #[.int .i64 0, .int .i64 0, .int .i64 0, .slice none 0 0, .slice none 0 0] 65)); simpa using this)
    have B2 : Hid (Blk (((w.alloc (.cells #[.int .i64 n, .int .i64 v, .int .i64 lo, .slice A m cA, .slice B k cB] 65)).alloc (.cells #[.int .i64 kd, .int .i64 fr, .int .i64 vw, .int .i64 sq, .string d, .string t] 32)).alloc (.cells #[.int .i64 0, .int .i64 0, .int .i64 0, .slice none 0 0, .slice none 0 0] 65)) (w.heap.size + 1 + 1) 65 #[.int .i64 0, .int .i64 0, .int .i64 0, .slice none 0 0, .slice none 0 0]) := Lib.hid (by have := (Blk.new ((w.alloc (.cells #[.int .i64 n, .int .i64 v, .int .i64 lo, .slice A m cA, .slice B k cB] 65)).alloc (.cells #[.int .i64 kd, .int .i64 fr, .int .i64 vw, .int .i64 sq, .string d, .string t] 32)) 65 #[.int .i64 0, .int .i64 0, .int .i64 0, .slice none 0 0, .slice none 0 0]); simpa using this)
    go_enter Try.func32, Try.ntmps32
    go_upto_region 1 with (fail)
    obtain ⟨g1, hg1⟩ : ∃ g1, w.heap.size = g1 := ⟨_, rfl⟩
    have HG := Lib.hid hg1
    rw [hg1] at B0 B1 B2 ⊢
    clear hg1
    generalize World.alloc (World.alloc (World.alloc w _) _) _ = wy at hb0 B0 B1 B2 ⊢
    have HX : Hid (∀ wx : World, Below wy.heap.size wy wx → (wx.cell? ⟨g1, 0, none⟩ = some (.int .i64 n) ∧ wx.cell? ⟨g1, 1, none⟩ = some (.int .i64 v) ∧ wx.cell? ⟨g1, 2, none⟩ = some (.int .i64 lo) ∧ wx.cell? ⟨g1, 3, none⟩ = some (.slice A m cA) ∧ wx.cell? ⟨g1, 4, none⟩ = some (.slice B k cB)) ∧ (wx.cell? ⟨g1 + 1, 0, none⟩ = some (.int .i64 kd) ∧ wx.cell? ⟨g1 + 1, 1, none⟩ = some (.int .i64 fr) ∧ wx.cell? ⟨g1 + 1, 2, none⟩ = some (.int .i64 vw) ∧ wx.cell? ⟨g1 + 1, 3, none⟩ = some (.int .i64 sq) ∧ wx.cell? ⟨g1 + 1, 4, none⟩ = some (.string d) ∧ wx.cell? ⟨g1 + 1, 5, none⟩ = some (.string t)) ∧ (wx.cell? ⟨g1 + 1 + 1, 0, none⟩ = some (.int .i64 0) ∧ wx.cell? ⟨g1 + 1 + 1, 1, none⟩ = some (.int .i64 0) ∧ wx.cell? ⟨g1 + 1 + 1, 2, none⟩ = some (.int .i64 0) ∧ wx.cell? ⟨g1 + 1 + 1, 3, none⟩ = some (.slice none 0 0) ∧ wx.cell? ⟨g1 + 1 + 1, 4, none⟩ = some (.slice none 0 0)) ∧ (wx.frozen? ⟨g1 + 1 + 1, 0, none⟩ = false ∧ wx.frozen? ⟨g1 + 1 + 1, 1, none⟩ = false ∧ wx.frozen? ⟨g1 + 1 + 1, 2, none⟩ = false ∧ wx.frozen? ⟨g1 + 1 + 1, 3, none⟩ = false ∧ wx.frozen? ⟨g1 + 1 + 1, 4, none⟩ = false) ∧ (wx.frozen? ⟨g1, 0, none⟩ = false ∧ wx.frozen? ⟨g1, 1, none⟩ = false ∧ wx.frozen? ⟨g1, 2, none⟩ = false ∧ wx.frozen? ⟨g1, 3, none⟩ = false ∧ wx.frozen? ⟨g1, 4, none⟩ = false)) := Lib.hid fun wx hb => by
      have b0 := B0.out.below hb B0.out.lt
      have b1 := B1.out.below hb B1.out.lt
      have b2 := B2.out.below hb B2.out.lt
      exact ⟨⟨b0.cell 0, b0.cell 1, b0.cell 2, b0.cell 3, b0.cell 4⟩, ⟨b1.cell 0, b1.cell 1, b1.cell 2, b1.cell 3, b1.cell 4, b1.cell 5⟩, ⟨b2.cell 0, b2.cell 1, b2.cell 2, b2.cell 3, b2.cell 4⟩, ⟨b2.frozen 0, b2.frozen 1, b2.frozen 2, b2.frozen 3, b2.frozen 4⟩, ⟨b0.frozen 0, b0.frozen 1, b0.frozen 2, b0.frozen 3, b0.frozen 4⟩⟩
    obtain ⟨⟨c0, c1, c2, c3, c4⟩, ⟨s0, s1, s2, s3, s4, s5⟩, ⟨z0, z1, z2, z3, z4⟩, ⟨f0, f1, f2, f3, f4⟩, ⟨e0, e1, e2, e3, e4⟩⟩ := HX.out wy (Below.refl _ _)
    have HGR : Hid (g1 + 1 + 1 < wy.heap.size) := Lib.hid B2.out.lt
    have HMs := Lib.hid (fun w => message_calls kd fr vw sq d t w)
    have HDs := Lib.hid (fun w => body3_calls kd fr vw sq d t w hkd)
    go_upto_region 8 with (first
      | (go_at_call 12; (with_reducible refine (HK.out _).mono ?_); rintro e w1 ⟨rfl, rfl⟩))
    clear c0 c1 c2 c3 c4 s0 s1 s2 s3 s4 s5 z0 z1 z2 z3 z4 f0 f1 f2 f3 f4 e0 e1 e2 e3 e4 HK
    have Hd0 : Hid (Below wy.heap.size wy wy.drew) := Lib.hid (Below.refl _ _).drew
    have HS : Hid (∀ W : World, Below wy.heap.size wy W → (W.cell? ⟨g1, 0, none⟩ = some (.int .i64 n) ∧ W.cell? ⟨g1, 1, none⟩ = some (.int .i64 v) ∧ W.cell? ⟨g1, 2, none⟩ = some (.int .i64 lo) ∧ W.cell? ⟨g1, 3, none⟩ = some (.slice A m cA) ∧ W.cell? ⟨g1, 4, none⟩ = some (.slice B k cB)) ∧ (W.cell? ⟨g1 + 1, 0, none⟩ = some (.int .i64 kd) ∧ W.cell? ⟨g1 + 1, 1, none⟩ = some (.int .i64 fr) ∧ W.cell? ⟨g1 + 1, 2, none⟩ = some (.int .i64 vw) ∧ W.cell? ⟨g1 + 1, 3, none⟩ = some (.int .i64 sq) ∧ W.cell? ⟨g1 + 1, 4, none⟩ = some (.string d) ∧ W.cell? ⟨g1 + 1, 5, none⟩ = some (.string t)) ∧ (W.cell? ⟨g1 + 1 + 1, 0, none⟩ = some (.int .i64 0) ∧ W.cell? ⟨g1 + 1 + 1, 1, none⟩ = some (.int .i64 0) ∧ W.cell? ⟨g1 + 1 + 1, 2, none⟩ = some (.int .i64 0) ∧ W.cell? ⟨g1 + 1 + 1, 3, none⟩ = some (.slice none 0 0) ∧ W.cell? ⟨g1 + 1 + 1, 4, none⟩ = some (.slice none 0 0)) ∧ (W.frozen? ⟨g1 + 1 + 1, 0, none⟩ = false ∧ W.frozen? ⟨g1 + 1 + 1, 1, none⟩ = false ∧ W.frozen? ⟨g1 + 1 + 1, 2, none⟩ = false ∧ W.frozen? ⟨g1 + 1 + 1, 3, none⟩ = false ∧ W.frozen? ⟨g1 + 1 + 1, 4, none⟩ = false)) := Lib.hid fun W hW => by
      obtain ⟨h1, h2, h3, h4, -⟩ := HX.out W hW
      exact ⟨h1, h2, h3, h4⟩
    have HS5 : Hid (∀ (W : World) u0 u1 u2 u3 u4, Below wy.heap.size wy W → ((((((W.setCell ⟨g1 + 1 + 1, 0, none⟩ u0).setCell ⟨g1 + 1 + 1, 1, none⟩ u1).setCell ⟨g1 + 1 + 1, 2, none⟩ u2).setCell ⟨g1 + 1 + 1, 3, none⟩ u3).setCell ⟨g1 + 1 + 1, 4, none⟩ u4).cell? ⟨g1, 0, none⟩ = some (.int .i64 n) ∧ (((((W.setCell ⟨g1 + 1 + 1, 0, none⟩ u0).setCell ⟨g1 + 1 + 1, 1, none⟩ u1).setCell ⟨g1 + 1 + 1, 2, none⟩ u2).setCell ⟨g1 + 1 + 1, 3, none⟩ u3).setCell ⟨g1 + 1 + 1, 4, none⟩ u4).cell? ⟨g1, 1, none⟩ = some (.int .i64 v) ∧ (((((W.setCell ⟨g1 + 1 + 1, 0, none⟩ u0).setCell ⟨g1 + 1 + 1, 1, none⟩ u1).setCell ⟨g1 + 1 + 1, 2, none⟩ u2).setCell ⟨g1 + 1 + 1, 3, none⟩ u3).setCell ⟨g1 + 1 + 1, 4, none⟩ u4).cell? ⟨g1, 2, none⟩ = some (.int .i64 lo) ∧ (((((W.setCell ⟨g1 + 1 + 1, 0, none⟩ u0).setCell ⟨g1 + 1 + 1, 1, none⟩ u1).setCell ⟨g1 + 1 + 1, 2, none⟩ u2).setCell ⟨g1 + 1 + 1, 3, none⟩ u3).setCell ⟨g1 + 1 + 1, 4, none⟩ u4).cell? ⟨g1, 3, none⟩ = some (.slice A m cA) ∧ (((((W.setCell ⟨g1 + 1 + 1, 0, none⟩ u0).setCell ⟨g1 + 1 + 1, 1, none⟩ u1).setCell ⟨g1 + 1 + 1, 2, none⟩ u2).setCell ⟨g1 + 1 + 1, 3, none⟩ u3).setCell ⟨g1 + 1 + 1, 4, none⟩ u4).cell? ⟨g1, 4, none⟩ = some (.slice B k cB)) ∧ ((((((W.setCell ⟨g1 + 1 + 1, 0, none⟩ u0).setCell ⟨g1 + 1 + 1, 1, none⟩ u1).setCell ⟨g1 + 1 + 1, 2, none⟩ u2).setCell ⟨g1 + 1 + 1, 3, none⟩ u3).setCell ⟨g1 + 1 + 1, 4, none⟩ u4).cell? ⟨g1 + 1, 0, none⟩ = some (.int .i64 kd) ∧ (((((W.setCell ⟨g1 + 1 + 1, 0, none⟩ u0).setCell ⟨g1 + 1 + 1, 1, none⟩ u1).setCell ⟨g1 + 1 + 1, 2, none⟩ u2).setCell ⟨g1 + 1 + 1, 3, none⟩ u3).setCell ⟨g1 + 1 + 1, 4, none⟩ u4).cell? ⟨g1 + 1, 1, none⟩ = some (.int .i64 fr) ∧ (((((W.setCell ⟨g1 + 1 + 1, 0, none⟩ u0).setCell ⟨g1 + 1 + 1, 1, none⟩ u1).setCell ⟨g1 + 1 + 1, 2, none⟩ u2).setCell ⟨g1 + 1 + 1, 3, none⟩ u3).setCell ⟨g1 + 1 + 1, 4, none⟩ u4).cell? ⟨g1 + 1, 2, none⟩ = some (.int .i64 vw) ∧ (((((W.setCell ⟨g1 + 1 + 1, 0, none⟩ u0).setCell ⟨g1 + 1 + 1, 1, none⟩ u1).setCell ⟨g1 + 1 + 1, 2, none⟩ u2).setCell ⟨g1 + 1 + 1, 3, none⟩ u3).setCell ⟨g1 + 1 + 1, 4, none⟩ u4).cell? ⟨g1 + 1, 3, none⟩ = some (.int .i64 sq) ∧ (((((W.setCell ⟨g1 + 1 + 1, 0, none⟩ u0).setCell ⟨g1 + 1 + 1, 1, none⟩ u1).setCell ⟨g1 + 1 + 1, 2, none⟩ u2).setCell ⟨g1 + 1 + 1, 3, none⟩ u3).setCell ⟨g1 + 1 + 1, 4, none⟩ u4).cell? ⟨g1 + 1, 4, none⟩ = some (.string d) ∧ (((((W.setCell ⟨g1 + 1 + 1, 0, none⟩ u0).setCell ⟨g1 + 1 + 1, 1, none⟩ u1).setCell ⟨g1 + 1 + 1, 2, none⟩ u2).setCell ⟨g1 + 1 + 1, 3, none⟩ u3).setCell ⟨g1 + 1 + 1, 4, none⟩ u4).cell? ⟨g1 + 1, 5, none⟩ = some (.string t))) := Lib.hid fun W u0 u1 u2 u3 u4 hW => by
      have b0 : Blk (((((W.setCell ⟨g1 + 1 + 1, 0, none⟩ u0).setCell ⟨g1 + 1 + 1, 1, none⟩ u1).setCell ⟨g1 + 1 + 1, 2, none⟩ u2).setCell ⟨g1 + 1 + 1, 3, none⟩ u3).setCell ⟨g1 + 1 + 1, 4, none⟩ u4) g1 65 #[.int .i64 n, .int .i64 v, .int .i64 lo, .slice A m cA, .slice B k cB] := (((((B0.out.below hW B0.out.lt).far (by omega) _).far (by omega) _).far (by omega) _).far (by omega) _).far (by omega) _
      have b1 : Blk (((((W.setCell ⟨g1 + 1 + 1, 0, none⟩ u0).setCell ⟨g1 + 1 + 1, 1, none⟩ u1).setCell ⟨g1 + 1 + 1, 2, none⟩ u2).setCell ⟨g1 + 1 + 1, 3, none⟩ u3).setCell ⟨g1 + 1 + 1, 4, none⟩ u4) (g1 + 1) 32 #[.int .i64 kd, .int .i64 fr, .int .i64 vw, .int .i64 sq, .string d, .string t] := (((((B1.out.below hW B1.out.lt).far (by omega) _).far (by omega) _).far (by omega) _).far (by omega) _).far (by omega) _
      exact ⟨⟨b0.cell 0, b0.cell 1, b0.cell 2, b0.cell 3, b0.cell 4⟩, b1.cell 0, b1.cell 1, b1.cell 2, b1.cell 3, b1.cell 4, b1.cell 5⟩
    have HMw := Lib.hid (fun wx (hx : Below wy.heap.size wy wx) => HM.out wx (below_next hb0.out hx))
    obtain ⟨⟨z0, z1, z2, z3, z4⟩, _⟩ : (wy.cell? ⟨g1 + 1 + 1, 0, none⟩ = some (.int .i64 0) ∧ wy.cell? ⟨g1 + 1 + 1, 1, none⟩ = some (.int .i64 0) ∧ wy.cell? ⟨g1 + 1 + 1, 2, none⟩ = some (.int .i64 0) ∧ wy.cell? ⟨g1 + 1 + 1, 3, none⟩ = some (.slice none 0 0) ∧ wy.cell? ⟨g1 + 1 + 1, 4, none⟩ = some (.slice none 0 0)) ∧ True := ⟨(HS.out wy (Below.refl _ _)).2.2.1, trivial⟩
    clear z0 z1 z2 z3 z4
    go_region_held3 (fun w' => (w'.cell? ⟨g1, 0, none⟩ = some (.int .i64 n) ∧ w'.cell? ⟨g1, 1, none⟩ = some (.int .i64 v) ∧ w'.cell? ⟨g1, 2, none⟩ = some (.int .i64 lo) ∧ w'.cell? ⟨g1, 3, none⟩ = some (.slice A m cA) ∧ w'.cell? ⟨g1, 4, none⟩ = some (.slice B k cB)) ∧ (w'.cell? ⟨g1 + 1, 0, none⟩ = some (.int .i64 kd) ∧ w'.cell? ⟨g1 + 1, 1, none⟩ = some (.int .i64 fr) ∧ w'.cell? ⟨g1 + 1, 2, none⟩ = some (.int .i64 vw) ∧ w'.cell? ⟨g1 + 1, 3, none⟩ = some (.int .i64 sq) ∧ w'.cell? ⟨g1 + 1, 4, none⟩ = some (.string d) ∧ w'.cell? ⟨g1 + 1, 5, none⟩ = some (.string t)))
      (first | (with_reducible exact ⟨(HS.out _ Hd0.out).1, (HS.out _ Hd0.out).2.1⟩) | (with_reducible exact ⟨(HS.out _ (below_next Hd0.out hbm.out)).1, (HS.out _ (below_next Hd0.out hbm.out)).2.1⟩) | (with_reducible exact ⟨(HS.out _ (below_next Hd0.out hbd.out)).1, (HS.out _ (below_next Hd0.out hbd.out)).2.1⟩) | (with_reducible exact ⟨(HS.out _ hbb.out).1, (HS.out _ hbb.out).2.1⟩) | (with_reducible exact ⟨(HS.out _ hbv.out).1, (HS.out _ hbv.out).2.1⟩) | (with_reducible exact HS5.out _ _ _ _ _ _ hbv.out) | fail)
      (first
        | (go_at_call 38; (with_reducible refine (HMs.out _).mono ?_); rintro e wm ⟨rfl, hh⟩; have hbm := Lib.hid hh; clear hh; (try (have hbb := Lib.hid (below_next (below_next Hd0.out hbd.out) hbm.out))))
        | (go_at_call 39; (with_reducible refine (HDs.out _).mono ?_); rintro e wd ⟨rfl, hh⟩; have hbd := Lib.hid hh; clear hh; (try (have hbb := Lib.hid (below_next (below_next Hd0.out hbm.out) hbd.out))))
        | (go_at_call 46; (refine (HMw.out _ hbb.out).mono ?_); rintro e wt ⟨A', c', B', cB', L1, rfl, hL1, hbt, hla⟩; have HL1 := Lib.hid hL1; have hbv := Lib.hid (below_next hbb.out hbt); have HLa := Lib.hid hla; clear hL1 hbt hla; obtain ⟨-, -, ⟨z0, z1, z2, z3, z4⟩, f0, f1, f2, f3, f4⟩ := HS.out wt hbv.out))
    all_goals
      go_wp2
      (try simp only [Exit.inBlock, Exit.then])
      refine bodyPost_ret (by simp [results, Try.results32, asAddr, go_sem, z0, z1, z2, z3, z4]; rfl) rfl ?_
      exact rtold rfl rfl rfl rfl rfl HL1.out (below_five (B := w.heap.size) (g := g1 + 1 + 1) (below_next hb0.out hbv.out) (by rw [HG.out]; omega) _ _ _ _ _) (HLa.out.call (by rw [HG.out]; omega) (Nat.lt_of_lt_of_le HGR.out hbb.out.size) _ _ _ _ _)
  · have HE2 := HE.out
    rw [hkd] at HE2 HK
    rw [HE2, if_neg (by decide), if_neg (by decide), if_neg (by decide), if_neg (by decide), if_pos rfl]
    clear HE HE2 hk6
    have HM := Lib.hid (fun wx (hb : Below w.heap.size w wx) => rcheck_calls wx A B cA cB y L0 hL0 (h.below hb) (hk.below hb) hlo hlen hkl hn fr t ⟨#[115]⟩ sq d)
    generalize y.check ⟨fr, t, ⟨#[115]⟩⟩ 5 sq d = r at HM ⊢
    have HL0 := Lib.hid hL0
    obtain ⟨m, hm⟩ : ∃ m, Hid (y.L.length = m) := ⟨_, Lib.hid rfl⟩
    obtain ⟨k, hkk⟩ : ∃ k, Hid (y.kept.length = k) := ⟨_, Lib.hid rfl⟩
    obtain ⟨n, hnn⟩ : ∃ n, Hid (y.n = n) := ⟨_, Lib.hid rfl⟩
    obtain ⟨v, hv⟩ : ∃ v, Hid (y.view = v) := ⟨_, Lib.hid rfl⟩
    obtain ⟨lo, hl⟩ : ∃ lo, Hid (y.low = lo) := ⟨_, Lib.hid rfl⟩
    rw [hnn.out, hv.out, hl.out, hm.out, hkk.out] at HM
    rw [hm.out, hkk.out, hnn.out, hv.out, hl.out]
    clear h hk hlo hlen hkl hn hL0
    have hb0 : Hid (Below w.heap.size w (((w.alloc (.cells #[.int .i64 n, .int .i64 v, .int .i64 lo, .slice A m cA, .slice B k cB] 65)).alloc (.cells #[.int .i64 kd, .int .i64 fr, .int .i64 vw, .int .i64 sq, .string d, .string t] 32)).alloc (.cells #[.int .i64 0, .int .i64 0, .int .i64 0, .slice none 0 0, .slice none 0 0] 65))) := Lib.hid ((((Below.refl _ _).alloc (Nat.le_refl _) _).alloc (by simp) _).alloc (by simp; omega) _)
    have B0 : Hid (Blk (((w.alloc (.cells #[.int .i64 n, .int .i64 v, .int .i64 lo, .slice A m cA, .slice B k cB] 65)).alloc (.cells #[.int .i64 kd, .int .i64 fr, .int .i64 vw, .int .i64 sq, .string d, .string t] 32)).alloc (.cells #[.int .i64 0, .int .i64 0, .int .i64 0, .slice none 0 0, .slice none 0 0] 65)) w.heap.size 65 #[.int .i64 n, .int .i64 v, .int .i64 lo, .slice A m cA, .slice B k cB]) := Lib.hid (((Blk.new w 65 #[.int .i64 n, .int .i64 v, .int .i64 lo, .slice A m cA, .slice B k cB]).alloc (.cells #[.int .i64 kd, .int .i64 fr, .int .i64 vw, .int .i64 sq, .string d, .string t] 32)).alloc (.cells #[.int .i64 0, .int .i64 0, .int .i64 0, .slice none 0 0, .slice none 0 0] 65))
    have B1 : Hid (Blk (((w.alloc (.cells #[.int .i64 n, .int .i64 v, .int .i64 lo, .slice A m cA, .slice B k cB] 65)).alloc (.cells #[.int .i64 kd, .int .i64 fr, .int .i64 vw, .int .i64 sq, .string d, .string t] 32)).alloc (.cells #[.int .i64 0, .int .i64 0, .int .i64 0, .slice none 0 0, .slice none 0 0] 65)) (w.heap.size + 1) 32 #[.int .i64 kd, .int .i64 fr, .int .i64 vw, .int .i64 sq, .string d, .string t]) := Lib.hid (by have := ((Blk.new (w.alloc (.cells #[.int .i64 n, .int .i64 v, .int .i64 lo, .slice A m cA, .slice B k cB] 65)) 32 #[.int .i64 kd, .int .i64 fr, .int .i64 vw, .int .i64 sq, .string d, .string t]).alloc (.cells #[.int .i64 0, .int .i64 0, .int .i64 0, .slice none 0 0, .slice none 0 0] 65)); simpa using this)
    have B2 : Hid (Blk (((w.alloc (.cells #[.int .i64 n, .int .i64 v, .int .i64 lo, .slice A m cA, .slice B k cB] 65)).alloc (.cells #[.int .i64 kd, .int .i64 fr, .int .i64 vw, .int .i64 sq, .string d, .string t] 32)).alloc (.cells #[.int .i64 0, .int .i64 0, .int .i64 0, .slice none 0 0, .slice none 0 0] 65)) (w.heap.size + 1 + 1) 65 #[.int .i64 0, .int .i64 0, .int .i64 0, .slice none 0 0, .slice none 0 0]) := Lib.hid (by have := (Blk.new ((w.alloc (.cells #[.int .i64 n, .int .i64 v, .int .i64 lo, .slice A m cA, .slice B k cB] 65)).alloc (.cells #[.int .i64 kd, .int .i64 fr, .int .i64 vw, .int .i64 sq, .string d, .string t] 32)) 65 #[.int .i64 0, .int .i64 0, .int .i64 0, .slice none 0 0, .slice none 0 0]); simpa using this)
    go_enter Try.func32, Try.ntmps32
    go_upto_region 1 with (fail)
    obtain ⟨g1, hg1⟩ : ∃ g1, w.heap.size = g1 := ⟨_, rfl⟩
    have HG := Lib.hid hg1
    rw [hg1] at B0 B1 B2 ⊢
    clear hg1
    generalize World.alloc (World.alloc (World.alloc w _) _) _ = wy at hb0 B0 B1 B2 ⊢
    have HX : Hid (∀ wx : World, Below wy.heap.size wy wx → (wx.cell? ⟨g1, 0, none⟩ = some (.int .i64 n) ∧ wx.cell? ⟨g1, 1, none⟩ = some (.int .i64 v) ∧ wx.cell? ⟨g1, 2, none⟩ = some (.int .i64 lo) ∧ wx.cell? ⟨g1, 3, none⟩ = some (.slice A m cA) ∧ wx.cell? ⟨g1, 4, none⟩ = some (.slice B k cB)) ∧ (wx.cell? ⟨g1 + 1, 0, none⟩ = some (.int .i64 kd) ∧ wx.cell? ⟨g1 + 1, 1, none⟩ = some (.int .i64 fr) ∧ wx.cell? ⟨g1 + 1, 2, none⟩ = some (.int .i64 vw) ∧ wx.cell? ⟨g1 + 1, 3, none⟩ = some (.int .i64 sq) ∧ wx.cell? ⟨g1 + 1, 4, none⟩ = some (.string d) ∧ wx.cell? ⟨g1 + 1, 5, none⟩ = some (.string t)) ∧ (wx.cell? ⟨g1 + 1 + 1, 0, none⟩ = some (.int .i64 0) ∧ wx.cell? ⟨g1 + 1 + 1, 1, none⟩ = some (.int .i64 0) ∧ wx.cell? ⟨g1 + 1 + 1, 2, none⟩ = some (.int .i64 0) ∧ wx.cell? ⟨g1 + 1 + 1, 3, none⟩ = some (.slice none 0 0) ∧ wx.cell? ⟨g1 + 1 + 1, 4, none⟩ = some (.slice none 0 0)) ∧ (wx.frozen? ⟨g1 + 1 + 1, 0, none⟩ = false ∧ wx.frozen? ⟨g1 + 1 + 1, 1, none⟩ = false ∧ wx.frozen? ⟨g1 + 1 + 1, 2, none⟩ = false ∧ wx.frozen? ⟨g1 + 1 + 1, 3, none⟩ = false ∧ wx.frozen? ⟨g1 + 1 + 1, 4, none⟩ = false) ∧ (wx.frozen? ⟨g1, 0, none⟩ = false ∧ wx.frozen? ⟨g1, 1, none⟩ = false ∧ wx.frozen? ⟨g1, 2, none⟩ = false ∧ wx.frozen? ⟨g1, 3, none⟩ = false ∧ wx.frozen? ⟨g1, 4, none⟩ = false)) := Lib.hid fun wx hb => by
      have b0 := B0.out.below hb B0.out.lt
      have b1 := B1.out.below hb B1.out.lt
      have b2 := B2.out.below hb B2.out.lt
      exact ⟨⟨b0.cell 0, b0.cell 1, b0.cell 2, b0.cell 3, b0.cell 4⟩, ⟨b1.cell 0, b1.cell 1, b1.cell 2, b1.cell 3, b1.cell 4, b1.cell 5⟩, ⟨b2.cell 0, b2.cell 1, b2.cell 2, b2.cell 3, b2.cell 4⟩, ⟨b2.frozen 0, b2.frozen 1, b2.frozen 2, b2.frozen 3, b2.frozen 4⟩, ⟨b0.frozen 0, b0.frozen 1, b0.frozen 2, b0.frozen 3, b0.frozen 4⟩⟩
    obtain ⟨⟨c0, c1, c2, c3, c4⟩, ⟨s0, s1, s2, s3, s4, s5⟩, ⟨z0, z1, z2, z3, z4⟩, ⟨f0, f1, f2, f3, f4⟩, ⟨e0, e1, e2, e3, e4⟩⟩ := HX.out wy (Below.refl _ _)
    have HGR : Hid (g1 + 1 + 1 < wy.heap.size) := Lib.hid B2.out.lt
    have HMs := Lib.hid (fun w => message_calls kd fr vw sq d t w)
    have HDs := Lib.hid (fun w => body4_calls kd fr vw sq d t w hkd)
    go_upto_region 10 with (first
      | (go_at_call 12; (with_reducible refine (HK.out _).mono ?_); rintro e w1 ⟨rfl, rfl⟩))
    clear c0 c1 c2 c3 c4 s0 s1 s2 s3 s4 s5 z0 z1 z2 z3 z4 f0 f1 f2 f3 f4 e0 e1 e2 e3 e4 HK
    have Hd0 : Hid (Below wy.heap.size wy wy.drew) := Lib.hid (Below.refl _ _).drew
    have HS : Hid (∀ W : World, Below wy.heap.size wy W → (W.cell? ⟨g1, 0, none⟩ = some (.int .i64 n) ∧ W.cell? ⟨g1, 1, none⟩ = some (.int .i64 v) ∧ W.cell? ⟨g1, 2, none⟩ = some (.int .i64 lo) ∧ W.cell? ⟨g1, 3, none⟩ = some (.slice A m cA) ∧ W.cell? ⟨g1, 4, none⟩ = some (.slice B k cB)) ∧ (W.cell? ⟨g1 + 1, 0, none⟩ = some (.int .i64 kd) ∧ W.cell? ⟨g1 + 1, 1, none⟩ = some (.int .i64 fr) ∧ W.cell? ⟨g1 + 1, 2, none⟩ = some (.int .i64 vw) ∧ W.cell? ⟨g1 + 1, 3, none⟩ = some (.int .i64 sq) ∧ W.cell? ⟨g1 + 1, 4, none⟩ = some (.string d) ∧ W.cell? ⟨g1 + 1, 5, none⟩ = some (.string t)) ∧ (W.cell? ⟨g1 + 1 + 1, 0, none⟩ = some (.int .i64 0) ∧ W.cell? ⟨g1 + 1 + 1, 1, none⟩ = some (.int .i64 0) ∧ W.cell? ⟨g1 + 1 + 1, 2, none⟩ = some (.int .i64 0) ∧ W.cell? ⟨g1 + 1 + 1, 3, none⟩ = some (.slice none 0 0) ∧ W.cell? ⟨g1 + 1 + 1, 4, none⟩ = some (.slice none 0 0)) ∧ (W.frozen? ⟨g1 + 1 + 1, 0, none⟩ = false ∧ W.frozen? ⟨g1 + 1 + 1, 1, none⟩ = false ∧ W.frozen? ⟨g1 + 1 + 1, 2, none⟩ = false ∧ W.frozen? ⟨g1 + 1 + 1, 3, none⟩ = false ∧ W.frozen? ⟨g1 + 1 + 1, 4, none⟩ = false)) := Lib.hid fun W hW => by
      obtain ⟨h1, h2, h3, h4, -⟩ := HX.out W hW
      exact ⟨h1, h2, h3, h4⟩
    have HS5 : Hid (∀ (W : World) u0 u1 u2 u3 u4, Below wy.heap.size wy W → ((((((W.setCell ⟨g1 + 1 + 1, 0, none⟩ u0).setCell ⟨g1 + 1 + 1, 1, none⟩ u1).setCell ⟨g1 + 1 + 1, 2, none⟩ u2).setCell ⟨g1 + 1 + 1, 3, none⟩ u3).setCell ⟨g1 + 1 + 1, 4, none⟩ u4).cell? ⟨g1, 0, none⟩ = some (.int .i64 n) ∧ (((((W.setCell ⟨g1 + 1 + 1, 0, none⟩ u0).setCell ⟨g1 + 1 + 1, 1, none⟩ u1).setCell ⟨g1 + 1 + 1, 2, none⟩ u2).setCell ⟨g1 + 1 + 1, 3, none⟩ u3).setCell ⟨g1 + 1 + 1, 4, none⟩ u4).cell? ⟨g1, 1, none⟩ = some (.int .i64 v) ∧ (((((W.setCell ⟨g1 + 1 + 1, 0, none⟩ u0).setCell ⟨g1 + 1 + 1, 1, none⟩ u1).setCell ⟨g1 + 1 + 1, 2, none⟩ u2).setCell ⟨g1 + 1 + 1, 3, none⟩ u3).setCell ⟨g1 + 1 + 1, 4, none⟩ u4).cell? ⟨g1, 2, none⟩ = some (.int .i64 lo) ∧ (((((W.setCell ⟨g1 + 1 + 1, 0, none⟩ u0).setCell ⟨g1 + 1 + 1, 1, none⟩ u1).setCell ⟨g1 + 1 + 1, 2, none⟩ u2).setCell ⟨g1 + 1 + 1, 3, none⟩ u3).setCell ⟨g1 + 1 + 1, 4, none⟩ u4).cell? ⟨g1, 3, none⟩ = some (.slice A m cA) ∧ (((((W.setCell ⟨g1 + 1 + 1, 0, none⟩ u0).setCell ⟨g1 + 1 + 1, 1, none⟩ u1).setCell ⟨g1 + 1 + 1, 2, none⟩ u2).setCell ⟨g1 + 1 + 1, 3, none⟩ u3).setCell ⟨g1 + 1 + 1, 4, none⟩ u4).cell? ⟨g1, 4, none⟩ = some (.slice B k cB)) ∧ ((((((W.setCell ⟨g1 + 1 + 1, 0, none⟩ u0).setCell ⟨g1 + 1 + 1, 1, none⟩ u1).setCell ⟨g1 + 1 + 1, 2, none⟩ u2).setCell ⟨g1 + 1 + 1, 3, none⟩ u3).setCell ⟨g1 + 1 + 1, 4, none⟩ u4).cell? ⟨g1 + 1, 0, none⟩ = some (.int .i64 kd) ∧ (((((W.setCell ⟨g1 + 1 + 1, 0, none⟩ u0).setCell ⟨g1 + 1 + 1, 1, none⟩ u1).setCell ⟨g1 + 1 + 1, 2, none⟩ u2).setCell ⟨g1 + 1 + 1, 3, none⟩ u3).setCell ⟨g1 + 1 + 1, 4, none⟩ u4).cell? ⟨g1 + 1, 1, none⟩ = some (.int .i64 fr) ∧ (((((W.setCell ⟨g1 + 1 + 1, 0, none⟩ u0).setCell ⟨g1 + 1 + 1, 1, none⟩ u1).setCell ⟨g1 + 1 + 1, 2, none⟩ u2).setCell ⟨g1 + 1 + 1, 3, none⟩ u3).setCell ⟨g1 + 1 + 1, 4, none⟩ u4).cell? ⟨g1 + 1, 2, none⟩ = some (.int .i64 vw) ∧ (((((W.setCell ⟨g1 + 1 + 1, 0, none⟩ u0).setCell ⟨g1 + 1 + 1, 1, none⟩ u1).setCell ⟨g1 + 1 + 1, 2, none⟩ u2).setCell ⟨g1 + 1 + 1, 3, none⟩ u3).setCell ⟨g1 + 1 + 1, 4, none⟩ u4).cell? ⟨g1 + 1, 3, none⟩ = some (.int .i64 sq) ∧ (((((W.setCell ⟨g1 + 1 + 1, 0, none⟩ u0).setCell ⟨g1 + 1 + 1, 1, none⟩ u1).setCell ⟨g1 + 1 + 1, 2, none⟩ u2).setCell ⟨g1 + 1 + 1, 3, none⟩ u3).setCell ⟨g1 + 1 + 1, 4, none⟩ u4).cell? ⟨g1 + 1, 4, none⟩ = some (.string d) ∧ (((((W.setCell ⟨g1 + 1 + 1, 0, none⟩ u0).setCell ⟨g1 + 1 + 1, 1, none⟩ u1).setCell ⟨g1 + 1 + 1, 2, none⟩ u2).setCell ⟨g1 + 1 + 1, 3, none⟩ u3).setCell ⟨g1 + 1 + 1, 4, none⟩ u4).cell? ⟨g1 + 1, 5, none⟩ = some (.string t))) := Lib.hid fun W u0 u1 u2 u3 u4 hW => by
      have b0 : Blk (((((W.setCell ⟨g1 + 1 + 1, 0, none⟩ u0).setCell ⟨g1 + 1 + 1, 1, none⟩ u1).setCell ⟨g1 + 1 + 1, 2, none⟩ u2).setCell ⟨g1 + 1 + 1, 3, none⟩ u3).setCell ⟨g1 + 1 + 1, 4, none⟩ u4) g1 65 #[.int .i64 n, .int .i64 v, .int .i64 lo, .slice A m cA, .slice B k cB] := (((((B0.out.below hW B0.out.lt).far (by omega) _).far (by omega) _).far (by omega) _).far (by omega) _).far (by omega) _
      have b1 : Blk (((((W.setCell ⟨g1 + 1 + 1, 0, none⟩ u0).setCell ⟨g1 + 1 + 1, 1, none⟩ u1).setCell ⟨g1 + 1 + 1, 2, none⟩ u2).setCell ⟨g1 + 1 + 1, 3, none⟩ u3).setCell ⟨g1 + 1 + 1, 4, none⟩ u4) (g1 + 1) 32 #[.int .i64 kd, .int .i64 fr, .int .i64 vw, .int .i64 sq, .string d, .string t] := (((((B1.out.below hW B1.out.lt).far (by omega) _).far (by omega) _).far (by omega) _).far (by omega) _).far (by omega) _
      exact ⟨⟨b0.cell 0, b0.cell 1, b0.cell 2, b0.cell 3, b0.cell 4⟩, b1.cell 0, b1.cell 1, b1.cell 2, b1.cell 3, b1.cell 4, b1.cell 5⟩
    have HMw := Lib.hid (fun wx (hx : Below wy.heap.size wy wx) => HM.out wx (below_next hb0.out hx))
    obtain ⟨⟨z0, z1, z2, z3, z4⟩, _⟩ : (wy.cell? ⟨g1 + 1 + 1, 0, none⟩ = some (.int .i64 0) ∧ wy.cell? ⟨g1 + 1 + 1, 1, none⟩ = some (.int .i64 0) ∧ wy.cell? ⟨g1 + 1 + 1, 2, none⟩ = some (.int .i64 0) ∧ wy.cell? ⟨g1 + 1 + 1, 3, none⟩ = some (.slice none 0 0) ∧ wy.cell? ⟨g1 + 1 + 1, 4, none⟩ = some (.slice none 0 0)) ∧ True := ⟨(HS.out wy (Below.refl _ _)).2.2.1, trivial⟩
    clear z0 z1 z2 z3 z4
    go_region_held3 (fun w' => (w'.cell? ⟨g1, 0, none⟩ = some (.int .i64 n) ∧ w'.cell? ⟨g1, 1, none⟩ = some (.int .i64 v) ∧ w'.cell? ⟨g1, 2, none⟩ = some (.int .i64 lo) ∧ w'.cell? ⟨g1, 3, none⟩ = some (.slice A m cA) ∧ w'.cell? ⟨g1, 4, none⟩ = some (.slice B k cB)) ∧ (w'.cell? ⟨g1 + 1, 0, none⟩ = some (.int .i64 kd) ∧ w'.cell? ⟨g1 + 1, 1, none⟩ = some (.int .i64 fr) ∧ w'.cell? ⟨g1 + 1, 2, none⟩ = some (.int .i64 vw) ∧ w'.cell? ⟨g1 + 1, 3, none⟩ = some (.int .i64 sq) ∧ w'.cell? ⟨g1 + 1, 4, none⟩ = some (.string d) ∧ w'.cell? ⟨g1 + 1, 5, none⟩ = some (.string t)))
      (first | (with_reducible exact ⟨(HS.out _ Hd0.out).1, (HS.out _ Hd0.out).2.1⟩) | (with_reducible exact ⟨(HS.out _ (below_next Hd0.out hbm.out)).1, (HS.out _ (below_next Hd0.out hbm.out)).2.1⟩) | (with_reducible exact ⟨(HS.out _ (below_next Hd0.out hbd.out)).1, (HS.out _ (below_next Hd0.out hbd.out)).2.1⟩) | (with_reducible exact ⟨(HS.out _ hbb.out).1, (HS.out _ hbb.out).2.1⟩) | (with_reducible exact ⟨(HS.out _ hbv.out).1, (HS.out _ hbv.out).2.1⟩) | (with_reducible exact HS5.out _ _ _ _ _ _ hbv.out) | fail)
      (first
        | (go_at_call 38; (with_reducible refine (HMs.out _).mono ?_); rintro e wm ⟨rfl, hh⟩; have hbm := Lib.hid hh; clear hh; (try (have hbb := Lib.hid (below_next (below_next Hd0.out hbd.out) hbm.out))))
        | (go_at_call 39; (with_reducible refine (HDs.out _).mono ?_); rintro e wd ⟨rfl, hh⟩; have hbd := Lib.hid hh; clear hh; (try (have hbb := Lib.hid (below_next (below_next Hd0.out hbm.out) hbd.out))))
        | (go_at_call 47; (refine (HMw.out _ hbb.out).mono ?_); rintro e wt ⟨A', c', B', cB', L1, rfl, hL1, hbt, hla⟩; have HL1 := Lib.hid hL1; have hbv := Lib.hid (below_next hbb.out hbt); have HLa := Lib.hid hla; clear hL1 hbt hla; obtain ⟨-, -, ⟨z0, z1, z2, z3, z4⟩, f0, f1, f2, f3, f4⟩ := HS.out wt hbv.out))
    all_goals
      go_wp2
      (try simp only [Exit.inBlock, Exit.then])
      refine bodyPost_ret (by simp [results, Try.results32, asAddr, go_sem, z0, z1, z2, z3, z4]; rfl) rfl ?_
      exact rtold rfl rfl rfl rfl rfl HL1.out (below_five (B := w.heap.size) (g := g1 + 1 + 1) (below_next hb0.out hbv.out) (by rw [HG.out]; omega) _ _ _ _ _) (HLa.out.call (by rw [HG.out]; omega) (Nat.lt_of_lt_of_le HGR.out hbb.out.size) _ _ _ _ _)
  · have HE2 := HE.out
    rw [hkd] at HE2 HK
    rw [HE2, if_neg (by decide), if_neg (by decide), if_neg (by decide), if_neg (by decide), if_neg (by decide)]
    clear HE HE2 hk6
    have HM := Lib.hid (fun wx (hb : Below w.heap.size w wx) => rcut_calls wx A B cA cB y L0 hL0 (hk.below hb) hkl sq)
    generalize y.cut sq = r at HM ⊢
    have HL0 := Lib.hid hL0
    obtain ⟨m, hm⟩ : ∃ m, Hid (y.L.length = m) := ⟨_, Lib.hid rfl⟩
    obtain ⟨k, hkk⟩ : ∃ k, Hid (y.kept.length = k) := ⟨_, Lib.hid rfl⟩
    obtain ⟨n, hnn⟩ : ∃ n, Hid (y.n = n) := ⟨_, Lib.hid rfl⟩
    obtain ⟨v, hv⟩ : ∃ v, Hid (y.view = v) := ⟨_, Lib.hid rfl⟩
    obtain ⟨lo, hl⟩ : ∃ lo, Hid (y.low = lo) := ⟨_, Lib.hid rfl⟩
    rw [hnn.out, hv.out, hl.out, hm.out, hkk.out] at HM
    rw [hm.out, hkk.out, hnn.out, hv.out, hl.out]
    clear h hk hlo hlen hkl hn hL0
    have hb0 : Hid (Below w.heap.size w (((w.alloc (.cells #[.int .i64 n, .int .i64 v, .int .i64 lo, .slice A m cA, .slice B k cB] 65)).alloc (.cells #[.int .i64 kd, .int .i64 fr, .int .i64 vw, .int .i64 sq, .string d, .string t] 32)).alloc (.cells #[.int .i64 0, .int .i64 0, .int .i64 0, .slice none 0 0, .slice none 0 0] 65))) := Lib.hid ((((Below.refl _ _).alloc (Nat.le_refl _) _).alloc (by simp) _).alloc (by simp; omega) _)
    have B0 : Hid (Blk (((w.alloc (.cells #[.int .i64 n, .int .i64 v, .int .i64 lo, .slice A m cA, .slice B k cB] 65)).alloc (.cells #[.int .i64 kd, .int .i64 fr, .int .i64 vw, .int .i64 sq, .string d, .string t] 32)).alloc (.cells #[.int .i64 0, .int .i64 0, .int .i64 0, .slice none 0 0, .slice none 0 0] 65)) w.heap.size 65 #[.int .i64 n, .int .i64 v, .int .i64 lo, .slice A m cA, .slice B k cB]) := Lib.hid (((Blk.new w 65 #[.int .i64 n, .int .i64 v, .int .i64 lo, .slice A m cA, .slice B k cB]).alloc (.cells #[.int .i64 kd, .int .i64 fr, .int .i64 vw, .int .i64 sq, .string d, .string t] 32)).alloc (.cells #[.int .i64 0, .int .i64 0, .int .i64 0, .slice none 0 0, .slice none 0 0] 65))
    have B1 : Hid (Blk (((w.alloc (.cells #[.int .i64 n, .int .i64 v, .int .i64 lo, .slice A m cA, .slice B k cB] 65)).alloc (.cells #[.int .i64 kd, .int .i64 fr, .int .i64 vw, .int .i64 sq, .string d, .string t] 32)).alloc (.cells #[.int .i64 0, .int .i64 0, .int .i64 0, .slice none 0 0, .slice none 0 0] 65)) (w.heap.size + 1) 32 #[.int .i64 kd, .int .i64 fr, .int .i64 vw, .int .i64 sq, .string d, .string t]) := Lib.hid (by have := ((Blk.new (w.alloc (.cells #[.int .i64 n, .int .i64 v, .int .i64 lo, .slice A m cA, .slice B k cB] 65)) 32 #[.int .i64 kd, .int .i64 fr, .int .i64 vw, .int .i64 sq, .string d, .string t]).alloc (.cells #[.int .i64 0, .int .i64 0, .int .i64 0, .slice none 0 0, .slice none 0 0] 65)); simpa using this)
    have B2 : Hid (Blk (((w.alloc (.cells #[.int .i64 n, .int .i64 v, .int .i64 lo, .slice A m cA, .slice B k cB] 65)).alloc (.cells #[.int .i64 kd, .int .i64 fr, .int .i64 vw, .int .i64 sq, .string d, .string t] 32)).alloc (.cells #[.int .i64 0, .int .i64 0, .int .i64 0, .slice none 0 0, .slice none 0 0] 65)) (w.heap.size + 1 + 1) 65 #[.int .i64 0, .int .i64 0, .int .i64 0, .slice none 0 0, .slice none 0 0]) := Lib.hid (by have := (Blk.new ((w.alloc (.cells #[.int .i64 n, .int .i64 v, .int .i64 lo, .slice A m cA, .slice B k cB] 65)).alloc (.cells #[.int .i64 kd, .int .i64 fr, .int .i64 vw, .int .i64 sq, .string d, .string t] 32)) 65 #[.int .i64 0, .int .i64 0, .int .i64 0, .slice none 0 0, .slice none 0 0]); simpa using this)
    go_enter Try.func32, Try.ntmps32
    go_upto_region 1 with (fail)
    obtain ⟨g1, hg1⟩ : ∃ g1, w.heap.size = g1 := ⟨_, rfl⟩
    have HG := Lib.hid hg1
    rw [hg1] at B0 B1 B2 ⊢
    clear hg1
    generalize World.alloc (World.alloc (World.alloc w _) _) _ = wy at hb0 B0 B1 B2 ⊢
    have HX : Hid (∀ wx : World, Below wy.heap.size wy wx → (wx.cell? ⟨g1, 0, none⟩ = some (.int .i64 n) ∧ wx.cell? ⟨g1, 1, none⟩ = some (.int .i64 v) ∧ wx.cell? ⟨g1, 2, none⟩ = some (.int .i64 lo) ∧ wx.cell? ⟨g1, 3, none⟩ = some (.slice A m cA) ∧ wx.cell? ⟨g1, 4, none⟩ = some (.slice B k cB)) ∧ (wx.cell? ⟨g1 + 1, 0, none⟩ = some (.int .i64 kd) ∧ wx.cell? ⟨g1 + 1, 1, none⟩ = some (.int .i64 fr) ∧ wx.cell? ⟨g1 + 1, 2, none⟩ = some (.int .i64 vw) ∧ wx.cell? ⟨g1 + 1, 3, none⟩ = some (.int .i64 sq) ∧ wx.cell? ⟨g1 + 1, 4, none⟩ = some (.string d) ∧ wx.cell? ⟨g1 + 1, 5, none⟩ = some (.string t)) ∧ (wx.cell? ⟨g1 + 1 + 1, 0, none⟩ = some (.int .i64 0) ∧ wx.cell? ⟨g1 + 1 + 1, 1, none⟩ = some (.int .i64 0) ∧ wx.cell? ⟨g1 + 1 + 1, 2, none⟩ = some (.int .i64 0) ∧ wx.cell? ⟨g1 + 1 + 1, 3, none⟩ = some (.slice none 0 0) ∧ wx.cell? ⟨g1 + 1 + 1, 4, none⟩ = some (.slice none 0 0)) ∧ (wx.frozen? ⟨g1 + 1 + 1, 0, none⟩ = false ∧ wx.frozen? ⟨g1 + 1 + 1, 1, none⟩ = false ∧ wx.frozen? ⟨g1 + 1 + 1, 2, none⟩ = false ∧ wx.frozen? ⟨g1 + 1 + 1, 3, none⟩ = false ∧ wx.frozen? ⟨g1 + 1 + 1, 4, none⟩ = false) ∧ (wx.frozen? ⟨g1, 0, none⟩ = false ∧ wx.frozen? ⟨g1, 1, none⟩ = false ∧ wx.frozen? ⟨g1, 2, none⟩ = false ∧ wx.frozen? ⟨g1, 3, none⟩ = false ∧ wx.frozen? ⟨g1, 4, none⟩ = false)) := Lib.hid fun wx hb => by
      have b0 := B0.out.below hb B0.out.lt
      have b1 := B1.out.below hb B1.out.lt
      have b2 := B2.out.below hb B2.out.lt
      exact ⟨⟨b0.cell 0, b0.cell 1, b0.cell 2, b0.cell 3, b0.cell 4⟩, ⟨b1.cell 0, b1.cell 1, b1.cell 2, b1.cell 3, b1.cell 4, b1.cell 5⟩, ⟨b2.cell 0, b2.cell 1, b2.cell 2, b2.cell 3, b2.cell 4⟩, ⟨b2.frozen 0, b2.frozen 1, b2.frozen 2, b2.frozen 3, b2.frozen 4⟩, ⟨b0.frozen 0, b0.frozen 1, b0.frozen 2, b0.frozen 3, b0.frozen 4⟩⟩
    obtain ⟨⟨c0, c1, c2, c3, c4⟩, ⟨s0, s1, s2, s3, s4, s5⟩, ⟨z0, z1, z2, z3, z4⟩, ⟨f0, f1, f2, f3, f4⟩, ⟨e0, e1, e2, e3, e4⟩⟩ := HX.out wy (Below.refl _ _)
    have HGR : Hid (g1 + 1 + 1 < wy.heap.size) := Lib.hid B2.out.lt
    have HMy := Lib.hid (HM.out wy hb0.out)
    go_wp2_with (first
      | (go_at_call 12; (with_reducible refine (HK.out _).mono ?_); rintro e w1 ⟨rfl, rfl⟩)
      | (go_at_call 48; (refine (HMy.out).mono ?_); rintro e wt ⟨A', c', B', cB', L1, rfl, hL1, hbt, hla⟩; have HL1 := Lib.hid hL1; have HBT := Lib.hid hbt; have HLa := Lib.hid hla; clear hL1 hbt hla c0 c1 c2 c3 c4 s0 s1 s2 s3 s4 s5 z0 z1 z2 z3 z4 f0 f1 f2 f3 f4 e0 e1 e2 e3 e4; obtain ⟨⟨c0, c1, c2, c3, c4⟩, ⟨s0, s1, s2, s3, s4, s5⟩, ⟨z0, z1, z2, z3, z4⟩, ⟨f0, f1, f2, f3, f4⟩, ⟨e0, e1, e2, e3, e4⟩⟩ := HX.out wt HBT.out))
    (try simp only [Exit.inBlock, Exit.then])
    refine bodyPost_ret (by simp [results, Try.results32, asAddr, go_sem, z0, z1, z2, z3, z4]; rfl) rfl ?_
    exact rtold rfl rfl rfl rfl rfl HL1.out (below_five (B := w.heap.size) (g := g1 + 1 + 1) (below_next hb0.out HBT.out) (by rw [HG.out]; omega) _ _ _ _ _) (HLa.out.call (by rw [HG.out]; omega) HGR.out _ _ _ _ _)
end Go.Proofs.Ytedndjbhgbdpoaa
namespace Go.Proofs.Ytedndjbhgbdpoaa
open Go.RowKit
set_option linter.unusedVariables false
def lbox (y : Rl) (A B : Option Addr) (c cB : Nat) : Array Value := #[.int .i64 y.n, .int .i64 y.view, .int .i64 y.low, .slice A y.L.length c, .slice B y.kept.length cB]
theorem box_no_string {w : World} {gb : Nat} {y : Rl} {A B : Option Addr} {c cB : Nat} (hB : Blk w gb 65 (lbox y A B c cB)) {o : Nat} {s : ByteArray} (h : w.cell? ⟨gb, o + 1, none⟩ = some (.string s)) : False := by
  rw [hB.cell] at h
  unfold lbox at h
  rcases o with _ | _ | _ | _ | o <;> simp at h
theorem AtV.offBox {w w' : World} {g2 gm2 gb : Nat} {gv2 : Nat → Nat → Option Nat} {kv2 : Nat → Value} {l2 : Vl} {y : Rl} {A B : Option Addr} {c cB : Nat} (h2 : AtV w g2 gm2 gv2 kv2 l2) (hB : Blk w gb 65 (lbox y A B c cB)) (ha : ¬ feetW g2 gm2 gv2 gb) (ho : Only (fun b => b = gb) w w') : AtV w' g2 gm2 gv2 kv2 l2 := by
  have keep : ∀ b, feetW g2 gm2 gv2 b → b < w.heap.size → w'.heap[b]? = w.heap[b]? := fun b hb hlt => ho.block b hlt fun hf => ha (hf ▸ hb)
  refine ⟨?_, fun k j hk hj => (h2.maps k j hk hj).carry fun b hb hlt => keep b (.inr (.inr ⟨k, j, hk, hj, hb⟩)) hlt, h2.marks.carry (keep gm2 (.inr (.inl rfl)) h2.marks.lt), fun k hk => ?_, h2.apart, h2.ok⟩
  · exact (keep g2 (.inl rfl) h2.blk.lt).trans h2.blk
  · have hL := h2.lists k hk
    rcases hL with h | ⟨b, o, c', e1, e2, e3⟩
    · exact .inl h
    · refine .inr ⟨b, o, c', e1, e2, ?_⟩
      rcases e3 with e3 | ⟨b', o', e, h4, h5⟩
      · exact .inl e3
      · cases e
        generalize hLL : (l2.slots k).kept.list = L at h5
        cases L with
        | nil => left; rfl
        | cons s0 L' =>
          refine .inr ⟨b, o, rfl, Nat.lt_of_lt_of_le h4 ho.size, fun j hj => ?_⟩
          rw [← h5 j hj]
          refine World.cell?_of_block (ho.block b h4 fun hf => ?_)
          have c1 : w.cell? ⟨b, o + 1, none⟩ = some (.string s0.body) := h5 1 (by simp; omega)
          subst hf
          exact box_no_string hB c1
structure Both (w0 w : World) (g gb : Nat) (A B : Option Addr) (c cB : Nat) (x : Vl) (y : Rl) (L0 : List (Kb × Value)) : Prop where
  core : ∃ gm gv kv, ∃ R : Nat → Prop, AtV w g gm gv kv x ∧ w0.heap.size ≤ g ∧ w0.heap.size ≤ gm ∧ (∀ k j b, k < 8 → j < 2 → gv k j = some b → w0.heap.size ≤ b) ∧ ¬ feetW g gm gv gb ∧ (∀ b, R b → b < w.heap.size ∧ b ≠ gb ∧ ¬ feetW g gm gv b) ∧
    ∀ W' : World, w.heap.size ≤ W'.heap.size → (∀ b, R b → W'.heap[b]? = w.heap[b]?) → RlAt A B y.L L0 W'
  all : Below w0.heap.size w0 w
  box : Blk w gb 65 (lbox y A B c cB)
  new : w0.heap.size ≤ gb
  fst : L0.map Prod.fst = y.kept
  pair : Pair x y
  bare : x.Bare
  inv : x.KInv
section
variable {w0 w w' : World} {g gb : Nat} {A B : Option Addr} {c cB : Nat} {x : Vl} {y : Rl} {L0 : List (Kb × Value)}
theorem Both.vw (h : Both w0 w g gb A B c cB x y L0) : Vw w0 w g x := by
  obtain ⟨gm, gv, kv, R, h1, h2, h3, h4, _⟩ := h.core
  exact ⟨gm, gv, kv, h1, h2, h3, h4, h.all⟩
theorem Both.rows (h : Both w0 w g gb A B c cB x y L0) : RlAt A B y.L L0 w := by
  obtain ⟨gm, gv, kv, R, _, _, _, _, _, _, h7⟩ := h.core
  exact h7 w (Nat.le_refl _) fun _ _ => rfl
theorem Both.next (h : Both w0 w g gb A B c cB x y L0) (hb : Below w.heap.size w w') : Both w0 w' g gb A B c cB x y L0 := by
  obtain ⟨gm, gv, kv, R, h1, h2, h3, h4, h5, h6, h7⟩ := h.core
  refine ⟨⟨gm, gv, kv, R, h1.below hb, h2, h3, h4, h5, fun b hR => ⟨Nat.lt_of_lt_of_le (h6 b hR).1 hb.size, (h6 b hR).2⟩, fun W' hs hW => h7 W' (Nat.le_trans hb.size hs) fun b hR => (hW b hR).trans (hb.block b (h6 b hR).1)⟩, h.all.trans (hb.mono h.all.size), h.box.below hb h.box.lt, h.new, h.fst, h.pair, h.bare, h.inv⟩
theorem did_calls {gm : Nat} {gv : Nat → Nat → Option Nat} {kv : Nat → Value} (h1 : AtV w g gm gv kv x) (a : VAct) : Calls Try.prog 16 #[.pointer (some ⟨g, 0, none⟩), .agg (acells a).toArray] w (DidAct w g gm gv x a) := by
  have := arnd_lt a.kind (below := 6) (by omega)
  rcases (show arnd a.kind 6 = 0 ∨ arnd a.kind 6 = 1 ∨ arnd a.kind 6 = 2 ∨ arnd a.kind 6 = 3 ∨ arnd a.kind 6 = 4 ∨ arnd a.kind 6 = 5 by omega) with e | e | e | e | e | e
  · exact done0 h1 a e
  · exact done1 h1 a e
  · exact done2 h1 a e
  · exact done3 h1 a e
  · exact done4 h1 a e
  · exact done5 h1 a e
/-- What the program's call leaves of the rest: the box, another box, and both rows once the first box is written anew. -/
def DoneTo (w0 wr wt w3 W : World) (g gb : Nat) (A' B' : Option Addr) (c' cB' : Nat) (x2 : Vl) (y y2 : Rl) (L1 : List (Kb × Value)) (A B : Option Addr) (c cB : Nat) (w5 : World) : Prop :=
  Blk w5 gb 65 (lbox y A B c cB) ∧ (∀ b t cs, wr.heap.size ≤ b → Blk W b t cs → Blk w5 b t cs) ∧
  Both w0 (put5 w5 gb (.int .i64 y2.n) (.int .i64 y2.view) (.int .i64 y2.low) (.slice A' y2.L.length c') (.slice B' y2.kept.length cB')) g gb A' B' c' cB' x2 y2 L1
theorem Both.turn {wt w3 W : World} {A' B' : Option Addr} {c' cB' : Nat} {L1 : List (Kb × Value)} {a : VAct} (h : Both w0 w g gb A B c cB x y L0) (ho : x.Ok)
    (ht : Below w.heap.size w wt) (h3 : Below wt.heap.size wt w3) (hl : Lasts wt w3 (RlAt A B y.L L0) (RlAt A' B' (y.act a).1.L L1)) (hf : L1.map Prod.fst = (y.act a).1.kept)
    (hW : Below w.heap.size w W) (hs : w3.heap.size ≤ W.heap.size) (hk : ∀ b, wt.heap.size ≤ b → b < w3.heap.size → W.heap[b]? = w3.heap[b]?) :
    Calls Try.prog 16 #[.pointer (some ⟨g, 0, none⟩), .agg (acells a).toArray] W fun e w5 => e = .returned (.int .i64 (y.act a).2) ∧ DoneTo w0 w wt w3 W g gb A' B' c' cB' (x.act a).1 y (y.act a).1 L1 A B c cB w5 := by
  obtain ⟨gm, gv, kv, R, h1, h2, h3', h4, h5, h6, h7⟩ := h.core
  have hact := h.pair.act ho h.inv a
  have hg := h1.blk.lt
  have hgm := h1.marks.lt
  have hgv : ∀ k j b, k < 8 → j < 2 → gv k j = some b → b < w.heap.size := fun k j b hk hj hb => (h1.mapAt hk hj hb).lt
  have hfeet : ∀ b, feetW g gm gv b → b < w.heap.size := fun b hb => by
    rcases hb with rfl | rfl | ⟨k, j, hk, hj, hb⟩
    · exact hg
    · exact hgm
    · exact hgv k j b hk hj hb
  have hgb := h.box.lt
  refine (did_calls (h1.below hW) a).mono fun e w5 ⟨e1, ⟨gv', kv', e2, e3⟩, e4⟩ => ⟨by rw [e1, hact.1], ?_, ?_, ?_⟩
  · exact (e4.block gb (Nat.lt_of_lt_of_le hgb hW.size) h5).trans (h.box.below hW hgb)
  · intro b t cs hb hB
    exact (e4.block b hB.lt fun hh => by have := hfeet b hh; omega).trans hB
  · have hB5 : Blk w5 gb 65 (lbox y A B c cB) := (e4.block gb (Nat.lt_of_lt_of_le hgb hW.size) h5).trans (h.box.below hW hgb)
    have hfeet' : ∀ b, feetW g gm gv' b → feetW g gm gv b ∨ W.heap.size ≤ b := fun b hb => by
      rcases hb with rfl | rfl | ⟨k, j, hk, hj, hb⟩
      · exact .inl (.inl rfl)
      · exact .inl (.inr (.inl rfl))
      · exact (e3 k j b hk hj hb).elim (fun hh => .inl (.inr (.inr ⟨k, j, hk, hj, hh⟩))) .inr
    have hgb' : ¬ feetW g gm gv' gb := fun hh => (hfeet' gb hh).elim h5 fun hh2 => by have := hW.size; omega
    have hput : ∀ v0 v1 v2 v3 v4, Only (fun b => b = gb) w5 (put5 w5 gb v0 v1 v2 v3 v4) := fun v0 v1 v2 v3 v4 =>
      (((((Only.refl (fun b => b = gb) w5).setCell (.inl rfl) _).setCell (.inl rfl) _).setCell (.inl rfl) _).setCell (.inl rfl) _).setCell (.inl rfl) _
    have hsz : ∀ v0 v1 v2 v3 v4, (put5 w5 gb v0 v1 v2 v3 v4).heap.size = w5.heap.size := fun _ _ _ _ _ => by simp [put5]
    have hw5 := e4.size
    refine ⟨⟨gm, gv', kv', fun b => R b ∨ (wt.heap.size ≤ b ∧ b < w3.heap.size), e2.offBox hB5 hgb' (hput _ _ _ _ _), h2, h3', fun k j b hk hj hb => ?_, hgb', fun b hb => ?_, fun W' hs' hW' => ?_⟩, ?_, ?_, h.new, hf, hact.2, Vl.act_bare h.bare a, Vl.act_inv ho h.inv a⟩
    · rcases e3 k j b hk hj hb with hh | hh
      · exact h4 k j b hk hj hh
      · have := h.all.size; have := hW.size; omega
    · rw [hsz]
      rcases hb with hb | ⟨hb1, hb2⟩
      · obtain ⟨q1, q2, q3⟩ := h6 b hb
        exact ⟨by have := hW.size; omega, q2, fun hh => (hfeet' b hh).elim q3 fun hh2 => by have := hW.size; omega⟩
      · have := ht.size
        exact ⟨by omega, by omega, fun hh => (hfeet' b hh).elim (fun hh2 => by have := hfeet b hh2; omega) fun hh2 => by omega⟩
    · rw [hsz] at hs'
      have back : ∀ b, (R b ∨ (wt.heap.size ≤ b ∧ b < w3.heap.size)) → W'.heap[b]? = W.heap[b]? := fun b hb => by
        have hb' : b < W.heap.size ∧ b ≠ gb ∧ ¬ feetW g gm gv b := by
          rcases hb with hb | ⟨hb1, hb2⟩
          · obtain ⟨q1, q2, q3⟩ := h6 b hb
            exact ⟨by have := hW.size; omega, q2, q3⟩
          · have := ht.size
            exact ⟨by omega, by omega, fun hh2 => by have := hfeet b hh2; omega⟩
        rw [hW' b hb, heap_five w5 hb'.2.1]
        exact e4.block b hb'.1 hb'.2.2
      refine hl W' (by omega) (fun b hb1 hb2 => (back b (.inr ⟨hb1, hb2⟩)).trans (hk b hb1 hb2)) (h7 W' (by have := hW.size; omega) fun b hb => (back b (.inl hb)).trans (hW.block b (h6 b hb).1))
    · have hfw : ∀ b, feetW g gm gv b → w0.heap.size ≤ b := fun b hb => by
        rcases hb with rfl | rfl | ⟨k, j, hk, hj, hb⟩
        · exact h2
        · exact h3'
        · exact h4 k j b hk hj hb
      have b1 := h.all.trans (hW.mono h.all.size)
      exact below_five (b1.trans (e4.below b1.size hfw)) h.new _ _ _ _ _
    · exact (((((hB5.set_ 0 _).set_ 1 _).set_ 2 _).set_ 3 _).set_ 4 _)
end
end Go.Proofs.Ytedndjbhgbdpoaa
namespace Go.Proofs.Ytedndjbhgbdpoaa
open Go.RowKit
set_option linter.unusedVariables false
theorem vnew_bad (w : World) (n : Int) (h : ¬ goodN n) : Calls Try.prog 13 #[.int .i64 n] w fun e w' => e = .returned (.tuple #[.pointer none, .int .i64 1]) ∧ w = w' := by
  have HG := Lib.hid h
  by_cases a : n < 4
  · clear h
    go_enter Try.func13, Try.ntmps13
    go_wp2
    go_ret2
    exact ⟨rfl, rfl⟩
  · have aB : decide (n < 4) = false := by simpa using a
    by_cases b : 13 < n
    · clear h
      go_enter Try.func13, Try.ntmps13
      go_wp2
      go_ret2
      exact ⟨rfl, rfl⟩
    · have bB : decide (13 < n) = false := by simpa using b
      have c : (n.tmod 3 != 1) = true := by
        have e : n.tmod 3 = n % 3 := Int.tmod_eq_emod_of_nonneg (by omega)
        have : n.tmod 3 ≠ 1 := fun e2 => h (by unfold goodN; omega)
        simpa using this
      have c1 : n.tmod 3 = n % 3 := Int.tmod_eq_emod_of_nonneg (by omega)
      rw [c1] at c
      have c2 : ¬ n % 3 = 1 := fun e2 => h (by unfold goodN; omega)
      have c3 : (n % 3 == 1) = false := by simpa using c2
      clear h
      go_enter Try.func13, Try.ntmps13
      go_wp2
      go_ret2
      exact ⟨rfl, rfl⟩
set_option maxHeartbeats 8000000 in
set_option maxRecDepth 100000 in
theorem vplays_bad (w : World) (n : Int) (A : Option Addr) (m c : Nat) (h : ¬ goodN n) :
    Calls Try.prog 10 #[.int .i64 n, .slice A m c] w fun e w' => e = .returned (.bool true) ∧ Below w.heap.size w w' := by
  have HN := Lib.hid (fun w => vnew_bad w n h)
  have HR := Lib.hid (fun w => rnew_calls n w)
  rw [decide_eq_false h] at HR
  have HW := Lib.hid (fun w => awake_calls w)
  clear h
  go_enter Try.func10, Try.ntmps10
  go_wp2_with (first
    | (go_at_call 13; (with_reducible refine (HN.out _).mono ?_); rintro e w1 ⟨rfl, rfl⟩)
    | (go_at_call 31; (with_reducible refine (HR.out _).mono ?_); rintro e w2 ⟨rfl, hh⟩; have hb2 := Lib.hid hh; clear hh)
    | (go_at_call 14; (with_reducible refine (HW.out _).mono ?_); rintro e w3 ⟨rfl, hh⟩; have hb3 := Lib.hid hh; clear hh))
  go_ret
  exact ⟨rfl, below_next (hb2.out.alloc hb2.out.size _) hb3.out⟩
def TurnTo (wr : World) (y : Rl) (A' B' : Option Addr) (L0 : List (Kb × Value)) (r : Rl × Int) (gt : Nat) (A2 : Option Addr) (c2 : Nat) (B2 : Option Addr) (cB2 : Nat) (wc : World) : Prop :=
  ∃ wt w3 L1, Below wr.heap.size wr wt ∧ Below wt.heap.size wt w3 ∧ Lasts wt w3 (RlAt A' B' y.L L0) (RlAt A2 B2 r.1.L L1) ∧ L1.map Prod.fst = r.1.kept ∧ Below wr.heap.size wr wc ∧ w3.heap.size ≤ wc.heap.size ∧ (∀ b, wt.heap.size ≤ b → b < w3.heap.size → wc.heap[b]? = w3.heap[b]?) ∧ wr.heap.size ≤ gt ∧ Blk wc gt 65 #[.int .i64 y.n, .int .i64 r.1.view, .int .i64 r.1.low, .slice A2 r.1.L.length c2, .slice B2 r.1.kept.length cB2]
set_option maxHeartbeats 16000000 in
set_option maxRecDepth 100000 in
theorem vplays_good (w : World) (n : Int) (A : Option Addr) (m c : Nat) (Z : Nat → VAct) (hZ : Script w A m Z) (h : goodN n) :
    Calls Try.prog 10 #[.int .i64 n, .slice A m c] w fun e w' => e = .returned (.bool true) ∧ Below w.heap.size w w' := by
  have HZ := Lib.hid hZ
  have HN := Lib.hid (Vw.new w w (Below.refl _ _) n h)
  have HR := Lib.hid (fun w => rnew_calls n w)
  rw [decide_eq_true h] at HR
  have HW := Lib.hid (fun w => awake_calls w)
  clear hZ h
  go_enter Try.func10, Try.ntmps10
  go_upto_region 3 with (first
    | (go_at_call 13; (refine HN.out.mono ?_); rintro e w1 ⟨g, rfl, hh⟩; have H0 := Lib.hid hh; clear hh)
    | (go_at_call 31; (with_reducible refine (HR.out _).mono ?_); rintro e w2 ⟨rfl, hh⟩; have hb2 := Lib.hid hh; clear hh))
  obtain ⟨gb, hgb⟩ : ∃ gb, w2.heap.size = gb := ⟨_, rfl⟩
  have HB0 : Hid (Both w (w2.alloc (.cells #[.int .i64 n, .int .i64 0, .int .i64 0, .slice none 0 0, .slice none 0 0] 65)) g gb none none 0 0 (Vl.fresh n) ⟨n, 0, 0, [], []⟩ []) := Lib.hid (by
    have hbx : Below w2.heap.size w2 (w2.alloc (.cells #[.int .i64 n, .int .i64 0, .int .i64 0, .slice none 0 0, .slice none 0 0] 65)) := (Below.refl _ _).alloc (Nat.le_refl _) _
    have h1 := H0.out.next hb2.out
    obtain ⟨gm, gv, kv, q1, q2, q3, q4, q5⟩ := h1
    refine ⟨⟨gm, gv, kv, fun _ => False, q1.below hbx, q2, q3, q4, fun hh => ?_, fun b hb => hb.elim, fun W' _ _ => ⟨.inl rfl, .inl rfl, fun _ hp => nomatch hp⟩⟩, q5.trans (hbx.mono q5.size), ?_, ?_, rfl, Pair.fresh n, Vl.fresh_bare n, Vl.fresh_inv n⟩
    · have p1 := q1.blk.lt
      have p2 := q1.marks.lt
      rcases hh with hh | hh | ⟨k, j, hk, hj, hb⟩
      · omega
      · omega
      · have := (q1.mapAt hk hj hb).lt; omega
    · rw [← hgb]
      exact Blk.new _ _ _
    · rw [← hgb]; exact q5.size)
  have HFw : Hid (Rl.Few ⟨n, 0, 0, [], []⟩ 0) := Lib.hid ⟨Nat.le_refl _, fun _ hh => nomatch hh⟩
  rw [hgb]
  clear hgb H0 hb2 HN HR
  generalize World.alloc w2 _ = wz at HB0 ⊢
  go_wp2
  go_loopg [9] 61 (fun gk s9 wr => ∃ (i : Nat) (x : Vl) (y : Rl) (A' B' : Option Addr) (c' cB' : Nat) (L0 : List (Kb × Value)), gk = 61 - i ∧ i ≤ min m 60 ∧ s9 = .int .i64 (i : Int) ∧ Hid (Both w wr g gb A' B' c' cB' x y L0) ∧ Hid (y.Few i))
  case atStart => exact ⟨0, _, _, none, none, 0, 0, [], rfl, Nat.zero_le _, rfl, HB0, HFw⟩
  case round =>
    clear HB0 HFw
    obtain ⟨i, x, y, A', B', c', cB', L0, rfl, hi, rfl, H, HF⟩ := hrel
    have i0 : (0 : Int) ≤ (i : Int) := by omega
    have HLk : Hid (∀ (wr : World) x y A' B' c' cB' L0 (ii : Nat), ii ≤ 60 → Both w wr g gb A' B' c' cB' x y L0 → y.Few ii → Calls Try.prog 33 #[.pointer (some ⟨g, 0, none⟩), .agg #[.int .i64 y.n, .int .i64 y.view, .int .i64 y.low, .slice A' y.L.length c', .slice B' y.kept.length cB']] wr fun e w' => e = .returned (.bool true) ∧ Below wr.heap.size wr w') := Lib.hid fun wr x y A' B' c' cB' L0 ii hii hB hFe => like_calls w wr g x hB.vw A' B' c' cB' y L0 hB.fst hB.rows.1 hB.rows.2 hB.pair hB.bare hFe (by omega)
    by_cases hgo : i < m ∧ i < 60
    · obtain ⟨hin, hi60⟩ := hgo
      have i60 : (i : Int) < 60 := by omega
      have hinI : (i : Int) < (m : Int) := by omega
      obtain ⟨bs, os, rfl⟩ := HZ.out.at_ hin
      have ho := H.out.vw.ok
      have HTo : Hid (∀ wx, Below wr.heap.size wr wx → Calls Try.prog 32 #[.agg #[.int .i64 y.n, .int .i64 y.view, .int .i64 y.low, .slice A' y.L.length c', .slice B' y.kept.length cB'], .agg (acells (Z i)).toArray] wx (RTold wx A' B' y.L L0 y.n (y.act (Z i)))) := Lib.hid fun wx hb => by
        have hr := H.out.rows.below hb
        exact rtold_calls wx A' B' c' cB' y L0 H.out.fst hr.1 hr.2 (by rw [H.out.pair.low]; exact ho.low) (by have := HF.out.1; omega) (by rw [H.out.pair.kept]; have := kept_le8 x; omega) (by rw [H.out.pair.n]; exact ho.n) (Z i)
      have HTurn := Lib.hid (fun (wt w3 W : World) (A2 B2 : Option Addr) (c2 cB2 : Nat) (L1 : List (Kb × Value)) ht h3 hl hf hW hs hk => H.out.turn (wt := wt) (w3 := w3) (W := W) (A' := A2) (B' := B2) (c' := c2) (cB' := cB2) (L1 := L1) (a := Z i) ho ht h3 hl hf hW hs hk)
      have HF2 := Lib.hid (Rl.act_few HF.out (Z i))
      have HC := Lib.hid (fun wx (hb : Below wr.heap.size wr wx) => HZ.out.cells hin (below_next H.out.all hb))
      have HBx := Lib.hid H.out.box
      clear H HF ho
      generalize (x.act (Z i)).1 = x2 at HTurn
      generalize y.act (Z i) = r at HTo HTurn HF2
      unfold acells at HTo HTurn
      generalize (Z i).kind = y0 at HC HTo HTurn
      generalize (Z i).frm = y1 at HC HTo HTurn
      generalize (Z i).view = y2 at HC HTo HTurn
      generalize (Z i).seq = y3 at HC HTo HTurn
      generalize (Z i).d = y4 at HC HTo HTurn
      generalize (Z i).t = y5 at HC HTo HTurn
      have Hd0 : Hid (Below wr.heap.size wr wr.drew) := Lib.hid (Below.refl _ _).drew
      have hSx : Hid (∀ wx : World, Below wr.heap.size wr wx → (wx.cell? ⟨gb, 0, none⟩ = some (.int .i64 y.n) ∧ wx.cell? ⟨gb, 1, none⟩ = some (.int .i64 y.view) ∧ wx.cell? ⟨gb, 2, none⟩ = some (.int .i64 y.low) ∧ wx.cell? ⟨gb, 3, none⟩ = some (.slice A' y.L.length c') ∧ wx.cell? ⟨gb, 4, none⟩ = some (.slice B' y.kept.length cB') ∧ wx.cell? ⟨bs, os + i * 6, none⟩ = some (.int .i64 y0) ∧ wx.cell? ⟨bs, os + i * 6 + 1, none⟩ = some (.int .i64 y1) ∧ wx.cell? ⟨bs, os + i * 6 + 2, none⟩ = some (.int .i64 y2) ∧ wx.cell? ⟨bs, os + i * 6 + 3, none⟩ = some (.int .i64 y3) ∧ wx.cell? ⟨bs, os + i * 6 + 4, none⟩ = some (.string y4) ∧ wx.cell? ⟨bs, os + i * 6 + 5, none⟩ = some (.string y5))) := Lib.hid fun wx hb => by
        have b1 := HBx.out.below hb HBx.out.lt
        obtain ⟨z0, z1, z2, z3, z4, z5⟩ := HC.out wx hb
        exact ⟨b1.cell 0, b1.cell 1, b1.cell 2, b1.cell 3, b1.cell 4, z0, z1, z2, z3, z4, z5⟩
      have Hd1 : Hid (Below wr.heap.size wr (wr.alloc (.cells #[.int .i64 0, .int .i64 0, .int .i64 0, .slice none 0 0, .slice none 0 0] 65)).drew) := Lib.hid ((Below.refl _ _).alloc (Nat.le_refl _) _).drew
      have BN : Hid (Blk (wr.alloc (.cells #[.int .i64 0, .int .i64 0, .int .i64 0, .slice none 0 0, .slice none 0 0] 65)).drew wr.heap.size 65 #[.int .i64 0, .int .i64 0, .int .i64 0, .slice none 0 0, .slice none 0 0]) := Lib.hid (Blk.new wr _ _).drew
      have HT0 := Lib.hid (HTo.out _ Hd0.out)
      have HT1 := Lib.hid (HTo.out _ Hd1.out)
      have HSz1 : Hid (wr.heap.size < (wr.alloc (.cells #[.int .i64 0, .int .i64 0, .int .i64 0, .slice none 0 0, .slice none 0 0] 65)).drew.heap.size) := Lib.hid BN.out.lt
      clear HTo
      go_upto_region 10 with (fail)
      go_cut [10, 11] from 43 to 79 (fun s10 s11 wc => ∃ gt A2 c2 B2 cB2, s10 = .pointer (some ⟨gt, 0, none⟩) ∧ s11 = .int .i64 r.2 ∧ Hid (TurnTo wr y A' B' L0 r gt A2 c2 B2 cB2 wc))
      case first =>
        go_region_held3 (fun wx => wx.cell? ⟨gb, 0, none⟩ = some (.int .i64 y.n) ∧ wx.cell? ⟨gb, 1, none⟩ = some (.int .i64 y.view) ∧ wx.cell? ⟨gb, 2, none⟩ = some (.int .i64 y.low) ∧ wx.cell? ⟨gb, 3, none⟩ = some (.slice A' y.L.length c') ∧ wx.cell? ⟨gb, 4, none⟩ = some (.slice B' y.kept.length cB') ∧ wx.cell? ⟨bs, os + i * 6, none⟩ = some (.int .i64 y0) ∧ wx.cell? ⟨bs, os + i * 6 + 1, none⟩ = some (.int .i64 y1) ∧ wx.cell? ⟨bs, os + i * 6 + 2, none⟩ = some (.int .i64 y2) ∧ wx.cell? ⟨bs, os + i * 6 + 3, none⟩ = some (.int .i64 y3) ∧ wx.cell? ⟨bs, os + i * 6 + 4, none⟩ = some (.string y4) ∧ wx.cell? ⟨bs, os + i * 6 + 5, none⟩ = some (.string y5))
          (first | (with_reducible exact hSx.out _ Hd0.out) | (with_reducible exact hSx.out _ Hd1.out) | (with_reducible exact hSx.out _ (below_next Hd0.out hq0.out)) | (with_reducible exact hSx.out _ ((below_next Hd0.out hq0.out).alloc (below_next Hd0.out hq0.out).size _)) | (with_reducible exact hSx.out _ (below_next Hd1.out hq1.out)) | (with_reducible exact hSx.out _ ((((((below_next Hd1.out hq1.out).setCell (Nat.le_refl _) _).setCell (Nat.le_refl _) _).setCell (Nat.le_refl _) _).setCell (Nat.le_refl _) _).setCell (Nat.le_refl _) _)) | fail)
          (first
            | (go_at_call 32; (with_reducible refine (HT0.out).mono ?_); rintro e w3 ⟨A2, c2, B2, cB2, L1, rfl, hL1, hh, hla⟩; have hq0 := Lib.hid hh; have HL1 := Lib.hid hL1; have HLa := Lib.hid hla; clear hh hL1 hla)
            | (go_at_call 32; (with_reducible refine (HT1.out).mono ?_); rintro e w3 ⟨A2, c2, B2, cB2, L1, rfl, hL1, hh, hla⟩; have hq1 := Lib.hid hh; have HL1 := Lib.hid hL1; have HLa := Lib.hid hla; have B12 := Lib.hid (BN.out.below hh BN.out.lt); have e0 : w3.cell? ⟨wr.heap.size, 0, none⟩ = some (.int .i64 0) := B12.out.cell 0; have e1 : w3.cell? ⟨wr.heap.size, 1, none⟩ = some (.int .i64 0) := B12.out.cell 1; have e2 : w3.cell? ⟨wr.heap.size, 2, none⟩ = some (.int .i64 0) := B12.out.cell 2; have e3 : w3.cell? ⟨wr.heap.size, 3, none⟩ = some (.slice none 0 0) := B12.out.cell 3; have e4 : w3.cell? ⟨wr.heap.size, 4, none⟩ = some (.slice none 0 0) := B12.out.cell 4; have f0 := B12.out.frozen 0; have f1 := B12.out.frozen 1; have f2 := B12.out.frozen 2; have f3 := B12.out.frozen 3; have f4 := B12.out.frozen 4; clear hh hL1 hla))
        · go_wp2_with fail
          go_meet
          refine ⟨_, A2, c2, B2, cB2, rfl, rfl, Lib.hid ⟨wr.drew, w3, L1, Hd0.out, hq0.out, HLa.out, HL1.out, (below_next Hd0.out hq0.out).alloc (below_next Hd0.out hq0.out).size _, by simp, fun b _ hb => heap_alloc_old w3 _ hb, (below_next Hd0.out hq0.out).size, Blk.new _ _ _⟩⟩
        · go_wp2_with fail
          go_meet
          refine ⟨_, A2, c2, B2, cB2, rfl, rfl, Lib.hid ⟨_, w3, L1, Hd1.out, hq1.out, HLa.out, HL1.out, below_five (g := wr.heap.size) (below_next Hd1.out hq1.out) (Nat.le_refl _) _ _ _ _ _, by simp, fun b hb _ => heap_five (g := wr.heap.size) w3 (by have := HSz1.out; omega) _ _ _ _ _, Nat.le_refl _, ((((B12.out.set_ 0 _).set_ 1 _).set_ 2 _).set_ 3 _).set_ 4 _⟩⟩
      case rest =>
        obtain ⟨gt, A2, c2, B2, cB2, rfl, rfl, HTt⟩ := hcut
        clear HT0 HT1 hSx Hd0 Hd1 BN HSz1
        obtain ⟨wt, w3, L1, t1, t2, t3, t4, t5, t6, t7, t8, t9⟩ := HTt.out
        have HBt := Lib.hid t9
        have HD1 := Lib.hid (HTurn.out wt w3 wc A2 B2 c2 cB2 L1 t1 t2 t3 t4 t5 t6 t7)
        have Ht5 := Lib.hid t5
        have Ht8 := Lib.hid t8
        clear t1 t2 t3 t4 t5 t6 t7 t8 t9 HTt HTurn
        obtain ⟨z0, z1, z2, z3, z4, z5⟩ := HC.out _ Ht5.out
        go_upto_region 13 with (first
          | (go_at_call 16; (refine HD1.out.mono ?_); rintro e w5 ⟨rfl, hA, ho, hB5⟩; have HBg := Lib.hid hA; have HBt5 := Lib.hid (ho gt _ _ Ht8.out HBt.out); have HTn := Lib.hid hB5; clear hA ho hB5))
        clear z0 z1 z2 z3 z4 z5
        have g0 : w5.cell? ⟨gt, 0, none⟩ = some (.int .i64 y.n) := HBt5.out.cell 0
        have g1 : w5.cell? ⟨gt, 1, none⟩ = some (.int .i64 r.1.view) := HBt5.out.cell 1
        have g2 : w5.cell? ⟨gt, 2, none⟩ = some (.int .i64 r.1.low) := HBt5.out.cell 2
        have g3 : w5.cell? ⟨gt, 3, none⟩ = some (.slice A2 r.1.L.length c2) := HBt5.out.cell 3
        have g4 : w5.cell? ⟨gt, 4, none⟩ = some (.slice B2 r.1.kept.length cB2) := HBt5.out.cell 4
        have e0 : w5.cell? ⟨gb, 0, none⟩ = some (.int .i64 y.n) := HBg.out.cell 0
        have e1 : w5.cell? ⟨gb, 1, none⟩ = some (.int .i64 y.view) := HBg.out.cell 1
        have e2 : w5.cell? ⟨gb, 2, none⟩ = some (.int .i64 y.low) := HBg.out.cell 2
        have e3 : w5.cell? ⟨gb, 3, none⟩ = some (.slice A' y.L.length c') := HBg.out.cell 3
        have e4 : w5.cell? ⟨gb, 4, none⟩ = some (.slice B' y.kept.length cB') := HBg.out.cell 4
        have f0 := HBg.out.frozen 0
        have f1 := HBg.out.frozen 1
        have f2 := HBg.out.frozen 2
        have f3 := HBg.out.frozen 3
        have f4 := HBg.out.frozen 4
        rw [HF2.out.2] at HTn
        unfold put5 at HTn
        go_upto_region 14 with (fail)
        clear g0 g1 g2 g3 g4 e0 e1 e2 e3 e4 f0 f1 f2 f3 f4
        generalize World.setCell (World.setCell (World.setCell (World.setCell (World.setCell w5 _ _) _ _) _ _) _ _) _ _ = w6 at HTn ⊢
        have b0 : w6.cell? ⟨gb, 0, none⟩ = some (.int .i64 r.1.n) := HTn.out.box.cell 0
        have b1 : w6.cell? ⟨gb, 1, none⟩ = some (.int .i64 r.1.view) := HTn.out.box.cell 1
        have b2 : w6.cell? ⟨gb, 2, none⟩ = some (.int .i64 r.1.low) := HTn.out.box.cell 2
        have b3 : w6.cell? ⟨gb, 3, none⟩ = some (.slice A2 r.1.L.length c2) := HTn.out.box.cell 3
        have b4 : w6.cell? ⟨gb, 4, none⟩ = some (.slice B2 r.1.kept.length cB2) := HTn.out.box.cell 4
        have HLx := Lib.hid (HLk.out w6 _ _ _ _ _ _ _ (i + 1) (by omega) HTn.out HF2.out.1)
        obtain ⟨tm, htm⟩ : ∃ tm, (i : Int).tmod 4 = tm := ⟨_, rfl⟩
        by_cases h3 : tm = 3
        · subst h3
          go_wp2_with (first
            | (go_at_call 33; (with_reducible refine (HLx.out).mono ?_); rintro e w7 ⟨rfl, hh⟩; have hb7 := Lib.hid hh; clear hh))
          go_roundg (61 - (i + 1))
          case measure => omega
          case rel => exact ⟨i + 1, _, _, _, _, _, _, _, rfl, by omega, by go_num, Lib.hid (HTn.out.next hb7.out), Lib.hid HF2.out.1⟩
        · have h3B : (tm == 3) = false := by simpa using h3
          go_wp2
          go_roundg (61 - (i + 1))
          case measure => omega
          case rel => exact ⟨i + 1, _, _, _, _, _, _, _, rfl, by omega, by go_num, HTn, Lib.hid HF2.out.1⟩
    · have HLx := Lib.hid (HLk.out _ x y A' B' c' cB' L0 i (by omega) H.out HF.out)
      have b0 : wr.cell? ⟨gb, 0, none⟩ = some (.int .i64 y.n) := H.out.box.cell 0
      have b1 : wr.cell? ⟨gb, 1, none⟩ = some (.int .i64 y.view) := H.out.box.cell 1
      have b2 : wr.cell? ⟨gb, 2, none⟩ = some (.int .i64 y.low) := H.out.box.cell 2
      have b3 : wr.cell? ⟨gb, 3, none⟩ = some (.slice A' y.L.length c') := H.out.box.cell 3
      have b4 : wr.cell? ⟨gb, 4, none⟩ = some (.slice B' y.kept.length cB') := H.out.box.cell 4
      by_cases hin : i < m
      · have hi60I : ¬ (i : Int) < 60 := by omega
        have hinI : (i : Int) < (m : Int) := by omega
        clear hgo hi
        go_wp2_with (first
          | (go_at_call 33; (with_reducible refine (HLx.out).mono ?_); rintro e w7 ⟨rfl, hh⟩; have hb7 := Lib.hid hh; clear hh)
          | (go_at_call 14; (with_reducible refine (HW.out _).mono ?_); rintro e w8 ⟨rfl, hh⟩; have hb8 := Lib.hid hh; clear hh))
        go_ret
        exact ⟨rfl, below_next (below_next H.out.all hb7.out) hb8.out⟩
      · clear hgo hi
        go_wp2_with (first
          | (go_at_call 33; (with_reducible refine (HLx.out).mono ?_); rintro e w7 ⟨rfl, hh⟩; have hb7 := Lib.hid hh; clear hh)
          | (go_at_call 14; (with_reducible refine (HW.out _).mono ?_); rintro e w8 ⟨rfl, hh⟩; have hb8 := Lib.hid hh; clear hh))
        go_ret
        exact ⟨rfl, below_next (below_next H.out.all hb7.out) hb8.out⟩
theorem VlogPlays_walk (w : World) (n : Int) (_ : (Lit.int .i64 n).wf = true) (A : Option Addr) (m c : Nat) (Z : Nat → VAct) (hZ : Script w A m Z) :
    Calls Try.prog 10 #[.int .i64 n, .slice A m c] w fun e w' => e = .returned (.bool true) ∧ Below w.heap.size w w' := by
  by_cases h : goodN n
  · exact vplays_good w n A m c Z hZ h
  · exact vplays_bad w n A m c h
end Go.Proofs.Ytedndjbhgbdpoaa
