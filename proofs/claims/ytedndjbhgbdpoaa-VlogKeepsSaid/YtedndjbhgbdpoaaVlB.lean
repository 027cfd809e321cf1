/- Whose texts are kept: those of calls alone; spoilt. -/
import Derived.Test.YtedndjbhgbdpoaaKept2
namespace Go.Proofs.Ytedndjbhgbdpoaa
open Go.RowKit
namespace Vl
structure BSlot (P : ByteArray → Prop) (x : Slot) : Prop where
  votes : ∀ j i v, x.votes j i = some v → P v.m.body
  kept : ∀ m, m ∈ x.kept.list → P m.body
def BInv (l : Vl) (P : ByteArray → Prop) : Prop := ∀ k, BSlot P (l.slots k)
theorem BSlot.none (P : ByteArray → Prop) : BSlot P Slot.none := ⟨(fun _ _ _ h => by cases h), fun _ h => by cases h⟩
theorem BInv.mono {l : Vl} {P Q : ByteArray → Prop} (h : l.BInv P) (hq : ∀ t, P t → Q t) : l.BInv Q := fun k => ⟨fun j i v hv => hq _ ((h k).votes j i v hv), fun m hm => hq _ ((h k).kept m hm)⟩
theorem put_binv {l : Vl} {P : ByteArray → Prop} (h : l.BInv P) (k : Nat) {x : Slot} (hx : BSlot P x) : (l.put k x).BInv P := by
  intro i
  unfold put
  simp only
  split
  · exact hx
  · exact h i
theorem keep_binv {l : Vl} {P : ByteArray → Prop} (h : l.BInv P) (seq : Int) : (l.keep seq).BInv P := by
  unfold keep
  split
  · exact h
  · refine put_binv h _ ⟨(h (ix seq)).votes, fun m hm => ?_⟩
    have hm' : m ∈ (l.slot seq).agree 0 l.n.toNat := List.mem_of_mem_take hm
    unfold Slot.agree at hm'
    obtain ⟨i, _, hi⟩ := List.mem_filterMap.1 hm'
    obtain ⟨_, v, hv, rfl⟩ := agreeing_some hi
    exact (h (ix seq)).votes 0 i v hv
theorem propose_binv {l : Vl} {P : ByteArray → Prop} (h : l.BInv P) (v s : Int) (d b : ByteArray) : (l.propose v s d b).1.BInv P := by
  unfold propose
  split
  · exact h
  split
  · exact h
  split
  · exact keep_binv (put_binv h (ix s) (x := { l.slot s with has := true, digest := d, batch := b }) ⟨(h (ix s)).votes, (h (ix s)).kept⟩) s
  · split <;> exact h
theorem vote_binv {l : Vl} {P : ByteArray → Prop} (h : l.BInv P) (m : Sg) (hm : P m.body) (kk v s : Int) (d : ByteArray) : (l.vote m kk v s d).1.BInv P := by
  unfold vote
  split
  · exact h
  split
  · exact h
  split
  · split <;> exact h
  · refine keep_binv (put_binv h (ix s) (x := (l.slot s).vote (kk - 3).toNat m.frm ⟨m, d⟩) ⟨fun j i v hv => ?_, (h (ix s)).kept⟩) s
    unfold Slot.vote putAt at hv
    simp only at hv
    split at hv
    · dsimp only at hv
      split at hv
      · cases hv
        exact hm
      · exact (h (ix s)).votes _ _ _ hv
    · exact (h (ix s)).votes _ _ _ hv
theorem enter_binv {l : Vl} {P : ByteArray → Prop} (h : l.BInv P) (v : Int) : (l.enter v).1.BInv P := by
  unfold enter
  split
  · exact h
  · intro k
    dsimp only
    split
    · exact ⟨(fun _ _ _ h => by cases h), (h k).kept⟩
    · exact h k
theorem check_binv {l : Vl} {P : ByteArray → Prop} (h : l.BInv P) (m : Sg) (kk s : Int) (d : ByteArray) : (l.check m kk s d).1.BInv P := by
  unfold check
  split
  · exact h
  split
  · exact h
  simp only
  split
  · exact h
  · split <;> exact h
theorem cut_binv {l : Vl} {P : ByteArray → Prop} (h : l.BInv P) (s : Int) : (l.cut s).1.BInv P := by
  unfold cut
  split
  · exact h
  · intro k
    unfold wiped
    dsimp only
    split
    · exact BSlot.none P
    · exact h k
theorem act_binv {l : Vl} {P : ByteArray → Prop} (h : l.BInv P) (a : VAct) (ha : P a.t) : (l.act a).1.BInv P := by
  unfold act
  split
  · exact enter_binv h _
  split
  · exact propose_binv h _ _ _ _
  split
  · exact vote_binv h _ ha _ _ _ _
  split
  · exact vote_binv h _ ha _ _ _ _
  split
  · exact check_binv h _ _ _ _
  · exact cut_binv h _
theorem acts_binv {l : Vl} {P : ByteArray → Prop} (h : l.BInv P) (Z : Nat → VAct) : ∀ n, (∀ i, i < n → P (Z i).t) → (l.acts Z n).BInv P
  | 0, _ => h
  | n + 1, hz => act_binv (acts_binv h Z n fun i hi => hz i (by omega)) _ (hz n (by omega))
theorem seven_binv (Z : Nat → VAct) (n : Nat) : (seven.acts Z n).BInv fun t => ∃ i, i < n ∧ (Z i).t = t :=
  acts_binv (fun _ => BSlot.none _) Z n fun i hi => ⟨i, hi, rfl⟩
/-- What is told of one that is kept. -/
structure Fine (l : Vl) (P : ByteArray → Prop) (b : Kb) : Prop where
  kind : b.kind = 11
  view : b.view ≤ l.view
  low : l.low < b.seq ∧ b.seq ≤ l.low + 8
  len : b.list.length = 5
  digest : b.digest ≠ noText
  rising : Rising b.list
  frm : ∀ m, m ∈ b.list → 0 ≤ m.frm ∧ m.frm < 7
  body : ∀ m, m ∈ b.list → P m.body
theorem kept_fine {l : Vl} {P : ByteArray → Prop} (ho : l.Ok) (hk : l.KInv) (hb : l.BInv P) (h7 : l.n = 7) {i : Nat} (hi : i < l.kept.length) : l.Fine P (l.kept.getD i Kb.none) := by
  have hmem : l.kept.getD i Kb.none ∈ l.kept := by
    rw [List.getD_eq_getElem?_getD, List.getElem?_eq_getElem hi]
    exact List.getElem_mem hi
  unfold Vl.kept at hmem
  obtain ⟨j, hj8, hj⟩ := List.mem_filterMap.1 hmem
  rw [List.mem_range] at hj8
  simp only at hj
  split at hj
  · rename_i hkk
    have hj' := Option.some.inj hj
    unfold Vl.kept
    rw [← hj']
    have hw : l.within (l.low + 1 + (j : Int)) := ⟨by omega, by omega⟩
    obtain ⟨k1, k2, k3, k4⟩ := (hk _ hw).kept hkk
    rcases ho.kept (ix (l.low + 1 + (j : Int))) with h | h
    · exact absurd h.1 hkk
    · obtain ⟨g1, g2, g3, g4⟩ := h
      have e : (l.slot (l.low + 1 + (j : Int))).kept = (l.slots (ix (l.low + 1 + (j : Int)))).kept := rfl
      rw [← e] at g1 g2 g3 g4
      refine ⟨g1, g3, ⟨by rw [k1]; omega, by rw [k1]; omega⟩, ?_, k2, k3, fun m hm => by have := k4 m hm; omega, fun m hm => (hb _).kept m hm⟩
      unfold Vl.quorum at g4
      rw [h7] at g4
      omega
  · cases hj
theorem kept_rising {l : Vl} (hk : l.KInv) : l.kept.Pairwise fun a b => a.seq < b.seq := by
  unfold Vl.kept
  rw [List.pairwise_filterMap]
  have hr : (List.range 8).Pairwise (fun a b => a < b ∧ a < 8 ∧ b < 8) := by decide
  refine hr.imp fun {a b} hab x hx y hy => ?_
  simp only at hx hy
  split at hx
  · rename_i h1
    split at hy
    · rename_i h2
      cases hx
      cases hy
      rw [((hk (l.low + 1 + (a : Int)) ⟨by omega, by omega⟩).kept h1).1, ((hk (l.low + 1 + (b : Int)) ⟨by omega, by omega⟩).kept h2).1]
      omega
    · cases hy
  · cases hx
theorem pairwise_get {α : Type} {R : α → α → Prop} {L : List α} (h : L.Pairwise R) (z : α) {i j : Nat} (hij : i < j) (hj : j < L.length) : R (L.getD i z) (L.getD j z) := by
  rw [List.getD_eq_getElem?_getD, List.getD_eq_getElem?_getD, List.getElem?_eq_getElem (by omega), List.getElem?_eq_getElem hj]
  exact List.pairwise_iff_getElem.1 h i j (by omega) hj hij
end Vl
def tS : ByteArray := ⟨#[115, 112, 111, 105, 108, 116]⟩
theorem tS_list : tS.toList = [115, 112, 111, 105, 108, 116] := by simp [tS, ByteArray.toList_eq]
theorem spoilt_calls (w : World) (A : Option Addr) (n c : Nat) (Z : Nat → VAct) (hZ : Script w A n Z) (hn : n ≤ maxLen) (h : ∃ i, i < n ∧ (Z i).t = tS) :
    Calls Try.prog 24 #[.slice A n c] w fun e w' => e = .returned (.bool true) ∧ w = w' := by
  have HZ := Lib.hid hZ
  have HE := Lib.hid h
  clear hZ h
  unfold maxLen at hn
  go_enter Try.func24, Try.ntmps24
  go_wp2
  go_loopg [3] (n + 1) (fun gk s3 wr => ∃ i : Nat, gk = n + 1 - i ∧ i ≤ n ∧ s3 = .int .i64 (i : Int) ∧ Hid (∀ j, j < i → (Z j).t ≠ tS) ∧ w = wr)
  case atStart => exact ⟨0, rfl, Nat.zero_le _, rfl, Lib.hid (fun j hj => by omega), rfl⟩
  case round =>
    obtain ⟨i, rfl, hi, rfl, hno, rfl⟩ := hrel
    have i0 : (0 : Int) ≤ (i : Int) := by omega
    by_cases hlt : i < n
    · have hltI : (i : Int) < (n : Int) := by omega
      obtain ⟨b, o, rfl⟩ := HZ.out.at_ hlt
      obtain ⟨z0, z1, z2, z3, z4, z5⟩ := HZ.out.cells (w' := w) hlt (Below.refl _ _)
      clear z0 z1 z2 z3 z4
      by_cases ht : (Z i).t = tS
      · rw [ht] at z5
        unfold tS at z5
        clear ht
        go_wp2
        go_ret
        exact ⟨rfl, rfl⟩
      · have ht2 := Lib.hid ht
        have u1 := text_ne ht
        have u2 := text_apart ht
        rw [tS_list] at u1 u2
        generalize (Z i).t = y at z5 u1 u2
        clear ht
        go_wp2
        go_roundg (n + 1 - (i + 1))
        case measure => omega
        case rel => exact ⟨i + 1, rfl, by omega, by go_num, Lib.hid (fun j hj => by
          by_cases e : j = i
          · rw [e]; exact ht2.out
          · exact hno.out j (by omega)), rfl⟩
    · exfalso
      obtain ⟨j, hj, he⟩ := HE.out
      exact hno.out j (by omega) he
end Go.Proofs.Ytedndjbhgbdpoaa
