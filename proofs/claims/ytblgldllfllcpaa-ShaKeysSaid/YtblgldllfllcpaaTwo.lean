/- One hash, and two hashes apart, as the laws use them. -/
import Derived.Test.YtblgldllfllcpaaRSum
import Derived.Test.YtblgldllfllcpaaAwake
namespace Go.Proofs.Ytblgldllfllcpaa
open Go.RowKit
theorem bts_append (s t : ByteArray) : bts (s ++ t) = bts s ++ bts t := by
  unfold bts
  rw [ByteArray.data_append, Array.toList_append, List.map_append]
theorem hsum_str {w : World} {g : Nat} {b : Option Nat} (s : ByteArray) (hh : HashOf w g b (bts s)) (hsz : s.size ≤ 1099511627776) :
    Calls Try.prog 14 #[.pointer (some ⟨g, 0, none⟩)] w fun e w' => e = .returned (.string (dig s)) ∧ Below w.heap.size w w' :=
  (hsum_calls w g b (bts s) hh (by rw [bts_length]; exact hsz)).mono fun e w' ⟨str, h1, h2, h3⟩ => ⟨by rw [h1, bts_inj (h2.trans (bts_dig s).symm)], h3⟩
/-- A hash of s, made behind w0. -/
def One (w0 w : World) (g : Nat) (s : ByteArray) : Prop := ∃ b, HashOf w g b (bts s) ∧ w0.heap.size ≤ g ∧ (∀ i, b = some i → w0.heap.size ≤ i) ∧ Below w0.heap.size w0 w
theorem One.new (w : World) : Calls Try.prog 13 #[] w fun e w' => ∃ g, e = .returned (.pointer (some ⟨g, 0, none⟩)) ∧ One w w' g ⟨#[]⟩ :=
  (new_calls w).mono fun _ _ ⟨g, h1, h2, h3, h4⟩ => ⟨g, h1, none, h3, h2, nofun, h4⟩
section
variable {w0 w w' : World} {g : Nat} {s : ByteArray}
theorem One.below (h : One w0 w g s) (hb : Below w.heap.size w w') : One w0 w' g s := by
  obtain ⟨b, h1, h2, h3, h4⟩ := h
  exact ⟨b, h1.below hb, h2, h3, h4.trans (hb.mono h4.size)⟩
theorem One.write (h : One w0 w g s) (x : ByteArray) (hsz : s.size + x.size ≤ 1099511627776) :
    Calls Try.prog 15 #[.pointer (some ⟨g, 0, none⟩), .string x] w fun e w' => e = .returned (.tuple #[]) ∧ One w0 w' g (s ++ x) := by
  obtain ⟨b, h1, h2, h3, h4⟩ := h
  refine (write_calls w g b (bts s) x h1 (by rw [bts_length]; exact hsz)).mono fun e w' ⟨e1, b', h5, h6, h7⟩ => ⟨e1, b', by rw [bts_append]; exact h5, h2, fun i hi => ?_, h4.trans (h7.below h4.size fun k hk => ?_)⟩
  · rcases h6 i hi with h | h
    · exact h3 i h
    · exact Nat.le_trans h4.size h
  · rcases hk with rfl | hk
    · exact h2
    · exact h3 k hk
theorem One.sum (h : One w0 w g s) (hsz : s.size ≤ 1099511627776) :
    Calls Try.prog 14 #[.pointer (some ⟨g, 0, none⟩)] w fun e w' => e = .returned (.string (dig s)) ∧ One w0 w' g s := by
  obtain ⟨b, h1, h2, h3, h4⟩ := id h
  exact (hsum_str s h1 hsz).mono fun e w' ⟨e1, hb⟩ => ⟨e1, h.below hb⟩
end
/-- Two hashes that have no block in common. -/
def Two (w0 w : World) (g k : Nat) (s t : ByteArray) : Prop := ∃ b c, HashOf w g b (bts s) ∧ HashOf w k c (bts t) ∧ g ≠ k ∧ b ≠ some k ∧ c ≠ some g ∧ (∀ i, b = some i → c ≠ some i) ∧ w0.heap.size ≤ g ∧ w0.heap.size ≤ k ∧ (∀ i, b = some i → w0.heap.size ≤ i) ∧ (∀ i, c = some i → w0.heap.size ≤ i) ∧ Below w0.heap.size w0 w
section
variable {w0 w w' : World} {g k : Nat} {s t : ByteArray}
theorem Two.symm (h : Two w0 w g k s t) : Two w0 w k g t s := by
  obtain ⟨b, c, h1, h2, h3, h4, h5, h6, h7, h8, h9, h10, h11⟩ := h
  exact ⟨c, b, h2, h1, Ne.symm h3, h5, h4, fun i hi e => h6 i e hi, h8, h7, h10, h9, h11⟩
theorem Two.below (h : Two w0 w g k s t) (hb : Below w.heap.size w w') : Two w0 w' g k s t := by
  obtain ⟨b, c, h1, h2, h3, h4, h5, h6, h7, h8, h9, h10, h11⟩ := h
  exact ⟨b, c, h1.below hb, h2.below hb, h3, h4, h5, h6, h7, h8, h9, h10, h11.trans (hb.mono h11.size)⟩
theorem Two.second (h : One w0 w g s) : Calls Try.prog 13 #[] w fun e w' => ∃ k, e = .returned (.pointer (some ⟨k, 0, none⟩)) ∧ Two w0 w' g k s ⟨#[]⟩ := by
  obtain ⟨b, h1, h2, h3, h4⟩ := h
  refine (new_calls w).mono fun e w' ⟨k, e1, h5, h6, h7⟩ => ⟨k, e1, b, none, h1.below h7, h6, ?_, ?_, nofun, fun _ _ => nofun, h2, Nat.le_trans h4.size h5, h3, nofun, h4.trans (h7.mono h4.size)⟩
  · have := h1.lt; omega
  · intro e
    obtain ⟨A, c, _, how, _⟩ := h1
    have := how.lt e
    omega
theorem Two.write (h : Two w0 w g k s t) (x : ByteArray) (hsz : s.size + x.size ≤ 1099511627776) :
    Calls Try.prog 15 #[.pointer (some ⟨g, 0, none⟩), .string x] w fun e w' => e = .returned (.tuple #[]) ∧ Two w0 w' g k (s ++ x) t := by
  obtain ⟨b, c, h1, h2, h3, h4, h5, h6, h7, h8, h9, h10, h11⟩ := h
  have hkl := h2.lt
  have hcl : ∀ i, c = some i → i < w.heap.size := fun i hi => by
    obtain ⟨A, c', _, how, _⟩ := h2
    exact how.lt hi
  refine (write_calls w g b (bts s) x h1 (by rw [bts_length]; exact hsz)).mono fun e w' ⟨e1, b', k1, k2, k3⟩ => ⟨e1, b', c, by rw [bts_append]; exact k1, ?_, h3, ?_, h5, ?_, h7, h8, ?_, h10, h11.trans (k3.below h11.size fun k hk => ?_)⟩
  · refine h2.only k3 ?_ ?_
    · rintro (e | e)
      · exact h3 e.symm
      · exact h4 e
    · rintro i hi (e | e)
      · rw [e] at hi; exact h5 hi
      · exact h6 i e hi
  · intro e
    rcases k2 k e with h | h
    · exact h4 h
    · omega
  · intro i hi hc
    rcases k2 i hi with h | h
    · exact h6 i h hc
    · have := hcl i hc; omega
  · intro i hi
    rcases k2 i hi with h | h
    · exact h9 i h
    · exact Nat.le_trans h11.size h
  · rcases hk with rfl | hk
    · exact h7
    · exact h9 k hk
theorem Two.write2 (h : Two w0 w g k s t) (x : ByteArray) (hsz : t.size + x.size ≤ 1099511627776) :
    Calls Try.prog 15 #[.pointer (some ⟨k, 0, none⟩), .string x] w fun e w' => e = .returned (.tuple #[]) ∧ Two w0 w' g k s (t ++ x) :=
  (h.symm.write x hsz).mono fun _ _ ⟨e1, h1⟩ => ⟨e1, h1.symm⟩
theorem Two.sum (h : Two w0 w g k s t) (hsz : s.size ≤ 1099511627776) :
    Calls Try.prog 14 #[.pointer (some ⟨g, 0, none⟩)] w fun e w' => e = .returned (.string (dig s)) ∧ Two w0 w' g k s t := by
  obtain ⟨b, c, h1, _⟩ := id h
  exact (hsum_str s h1 hsz).mono fun e w' ⟨e1, hb⟩ => ⟨e1, h.below hb⟩
theorem Two.sum2 (h : Two w0 w g k s t) (hsz : t.size ≤ 1099511627776) :
    Calls Try.prog 14 #[.pointer (some ⟨k, 0, none⟩)] w fun e w' => e = .returned (.string (dig t)) ∧ Two w0 w' g k s t :=
  (h.symm.sum hsz).mono fun _ _ ⟨e1, h1⟩ => ⟨e1, h1.symm⟩
theorem Two.all (h : Two w0 w g k s t) : Below w0.heap.size w0 w := by
  obtain ⟨b, c, _, _, _, _, _, _, _, _, _, _, h11⟩ := h
  exact h11
theorem One.all (h : One w0 w g s) : Below w0.heap.size w0 w := by
  obtain ⟨b, _, _, _, h4⟩ := h
  exact h4
theorem Two.rsum (h : Two w0 w g k s t) (x : ByteArray) (hx : x.size ≤ 1099511627776) : Calls Try.prog 11 #[.string x] w fun e w' => e = .returned (.string (dig x)) ∧ Two w0 w' g k s t :=
  (rsum_calls x w hx).mono fun _ _ ⟨e1, hb⟩ => ⟨e1, h.below hb⟩
theorem Two.ssum (h : Two w0 w g k s t) (x : ByteArray) (hx : x.size ≤ 1099511627776) : Calls Try.prog 10 #[.string x] w fun e w' => e = .returned (.string (dig x)) ∧ Two w0 w' g k s t :=
  (ssum_calls x w hx).mono fun _ _ ⟨e1, hb⟩ => ⟨e1, h.below hb⟩
theorem Two.awake (h : Two w0 w g k s t) : Calls Try.prog 12 #[] w fun e w' => e = .returned (.bool true) ∧ Two w0 w' g k s t :=
  (awake_calls w).mono fun _ _ ⟨e1, hb⟩ => ⟨e1, h.below hb⟩
theorem One.rsum (h : One w0 w g s) (x : ByteArray) (hx : x.size ≤ 1099511627776) : Calls Try.prog 11 #[.string x] w fun e w' => e = .returned (.string (dig x)) ∧ One w0 w' g s :=
  (rsum_calls x w hx).mono fun _ _ ⟨e1, hb⟩ => ⟨e1, h.below hb⟩
theorem One.ssum (h : One w0 w g s) (x : ByteArray) (hx : x.size ≤ 1099511627776) : Calls Try.prog 10 #[.string x] w fun e w' => e = .returned (.string (dig x)) ∧ One w0 w' g s :=
  (ssum_calls x w hx).mono fun _ _ ⟨e1, hb⟩ => ⟨e1, h.below hb⟩
theorem One.awake (h : One w0 w g s) : Calls Try.prog 12 #[] w fun e w' => e = .returned (.bool true) ∧ One w0 w' g s :=
  (awake_calls w).mono fun _ _ ⟨e1, hb⟩ => ⟨e1, h.below hb⟩
end
theorem cell_old {w w' : World} (hb : Below w.heap.size w w') {b o : Nat} {v : Value} (h : w.cell? ⟨b, o, none⟩ = some v) : w'.cell? ⟨b, o, none⟩ = some v := (hb.cell (p := ⟨b, o, none⟩) (World.block_lt_of_cell? w _ h)).trans h
end Go.Proofs.Ytblgldllfllcpaa
