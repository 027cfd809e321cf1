/- The program's book and the reference's side by side; one call of both. -/
import Derived.Test.YtilbhnloelgpdaaRefD
import Derived.Test.YtilbhnloelgpdaaRefE
import Derived.Test.YtilbhnloelgpdaaRefY
namespace Go.Proofs.Ytilbhnloelgpdaa
open Go.RowKit
set_option linter.unusedVariables false
set_option linter.unusedSimpArgs false
theorem ORow.only {w w' : World} {A : Option Addr} {L : List Ord} {S : Nat → Prop} (h : ORow w A L) (ho : Only S w w') (hS : ∀ bb off, A = Option.some ⟨bb, off, Option.none⟩ → 0 < L.length → ¬ S bb) : ORow w' A L := by
  rcases h with h | ⟨b, off, h1, h2, h3⟩
  · exact .inl h
  · by_cases hl : 0 < L.length
    · refine .inr ⟨b, off, h1, Nat.lt_of_lt_of_le h2 ho.size, fun j hj => ?_⟩
      rw [World.cell?_of_block (a := ⟨b, off + j, Option.none⟩) (ho.block b h2 (hS b off h1 hl))]
      exact h3 j hj
    · exact .inl (by omega)
def Apart (A : Option Addr) (n g : Nat) (gl : Option Nat) : Prop := ∀ bb off, A = some ⟨bb, off, none⟩ → 0 < n → bb ≠ g ∧ gl ≠ some bb
structure Two (w : World) (g : Nat) (gl : Option Nat) (A : Option Addr) (b : Bk) : Prop where
  book : AtB w g gl b
  row : ORow w A b.l
  apart : Apart A b.l.length g gl
theorem Two.below {w w' : World} {g : Nat} {gl : Option Nat} {A : Option Addr} {b : Bk} (h : Two w g gl A b) (hb : Below w.heap.size w w') : Two w' g gl A b := ⟨h.book.below hb, h.row.below hb, h.apart⟩
/-- Behind the reference's call: its row is new, or as it was. -/
theorem Two.ref {w w' : World} {g : Nat} {gl : Option Nat} {A A' : Option Addr} {c c' : Nat} {b b' : Bk} (h : Two w g gl A b) (hb : Below w.heap.size w w') (hr : (A' = A ∧ c' = c ∧ b' = b) ∨ Mine w w' 6 (.slice A' b'.l.length c') b'.l.length (ocells b'.l)) : ORow w' A' b'.l ∧ Apart A' b'.l.length g gl := by
  rcases hr with ⟨rfl, rfl, rfl⟩ | hm
  · exact ⟨h.row.below hb, h.apart⟩
  · refine ⟨(hm.orow rfl).2, fun bb off e hl => ?_⟩
    have hge : w.heap.size ≤ bb := by
      obtain ⟨k, ho, hk⟩ := hm
      obtain ⟨_, A2, c2, hv, h1, h2, ⟨h3, h4⟩ | ⟨g2, off2, h3, hA, _⟩⟩ := ho
      · omega
      · cases hv
        rw [e] at hA
        cases hA
        exact hk _ h3
    have h1 := h.book.lt
    refine ⟨by omega, fun e2 => ?_⟩
    obtain ⟨_, _, _, ho⟩ := h.book.box
    have := ho.lt e2
    omega
theorem row_far {w wy w' : World} {A A' : Option Addr} {c c' k : Nat} {b b' : Bk} (hrow : ORow w A b.l) (hk : w.heap.size ≤ k ∧ k < wy.heap.size) (hr : (A' = A ∧ c' = c ∧ b' = b) ∨ Mine wy w' 6 (.slice A' b'.l.length c') b'.l.length (ocells b'.l)) : ∀ bb off, A' = some ⟨bb, off, none⟩ → 0 < b'.l.length → bb ≠ k := by
  intro bb off e hl e2
  rcases hr with ⟨rfl, rfl, rfl⟩ | hm
  · obtain ⟨b2, o2, e3, h4⟩ := hrow.some hl
    rw [e] at e3
    cases e3
    omega
  · obtain ⟨kk, ho, hkk⟩ := hm
    obtain ⟨_, A2, c2, hv, h1, h2, ⟨h3, h4⟩ | ⟨g2, off2, h3, hA, _⟩⟩ := ho
    · omega
    · cases hv
      rw [e] at hA
      cases hA
      have := hkk _ h3
      omega
theorem row_keep {w wy w' : World} {A A' : Option Addr} {c c' : Nat} {b b' : Bk} (hs : w.heap.size ≤ wy.heap.size) (hr : (A' = A ∧ c' = c ∧ b' = b) ∨ Mine wy w' 6 (.slice A' b'.l.length c') b'.l.length (ocells b'.l)) : ∀ k, k < w.heap.size → (∀ bb off, A = some ⟨bb, off, none⟩ → 0 < b.l.length → bb ≠ k) → ∀ bb off, A' = some ⟨bb, off, none⟩ → 0 < b'.l.length → bb ≠ k := by
  intro k hk ho bb off e hl e2
  rcases hr with ⟨rfl, rfl, rfl⟩ | hm
  · exact ho bb off e hl e2
  · obtain ⟨kk, ho, hkk⟩ := hm
    obtain ⟨_, A2, c2, hv, h1, h2, ⟨h3, h4⟩ | ⟨g2, off2, h3, hA, _⟩⟩ := ho
    · omega
    · cases hv
      rw [e] at hA
      cases hA
      have := hkk _ h3
      omega
/-- Behind the program's call too. -/
theorem Two.turn {w w' : World} {g : Nat} {gl : Option Nat} {A : Option Addr} {L : List Ord} {b' : Bk} (hr : ORow w A L) (ha : Apart A L.length g gl) (ht : Turns w w' g gl b') (hl : b'.l = L) : ∃ gl', Two w' g gl' A b' ∧ Only (fun k => k = g ∨ some k = gl) w w' ∧ (gl' = gl ∨ ∃ k, gl' = some k ∧ w.heap.size ≤ k) := by
  obtain ⟨gl', h1, h2, h3⟩ := ht
  subst hl
  refine ⟨gl', ⟨h1, hr.only h2 fun bb off e hl hS => ?_, fun bb off e hl => ⟨(ha bb off e hl).1, fun e2 => ?_⟩⟩, h2, h3⟩
  · rcases hS with hS | hS
    · exact (ha bb off e hl).1 hS
    · exact (ha bb off e hl).2 hS.symm
  · rcases h3 with rfl | ⟨k, hk, hk2⟩
    · exact (ha bb off e hl).2 e2
    · rw [hk] at e2
      cases e2
      obtain ⟨b2, o2, e3, h4⟩ := hr.some hl
      rw [e] at e3
      cases e3
      omega
/-- What one call of both leaves. -/
def Stepped (w : World) (g : Nat) (gl : Option Nat) (A : Option Addr) (n : Nat) (b' : Bk) (e : Ending) (w' : World) : Prop :=
  ∃ A' c' gl', e = .returned (.tuple #[rval A' c' b', .bool true]) ∧ Two w' g gl' A' b' ∧ Only (fun k => k = g ∨ some k = gl) w w' ∧ (gl' = gl ∨ ∃ k, gl' = some k ∧ w.heap.size ≤ k) ∧ ∀ k, k < w.heap.size → (∀ bb off, A = some ⟨bb, off, none⟩ → 0 < n → bb ≠ k) → ∀ bb off, A' = some ⟨bb, off, none⟩ → 0 < b'.l.length → bb ≠ k
/-- Stores into the caller's block leave both. -/
theorem Two.far2 {w : World} {g gr : Nat} {gl : Option Nat} {A : Option Addr} {b : Bk} (h : Two w g gl A b) (h1 : gr ≠ g) (h2 : gl ≠ some gr) (h3 : ∀ bb off, A = some ⟨bb, off, none⟩ → 0 < b.l.length → bb ≠ gr) (v0 v1 : Value) : Two ((w.setCell ⟨gr, 0, none⟩ v0).setCell ⟨gr, 1, none⟩ v1) g gl A b := by
  have ho : Only (fun k => k = gr) w ((w.setCell ⟨gr, 0, none⟩ v0).setCell ⟨gr, 1, none⟩ v1) := ((Only.refl (fun k => k = gr) w).setCell (.inl rfl) v0).setCell (.inl rfl) v1
  refine ⟨h.book.carry ho.size (ho.block g h.book.lt fun e => h1 e.symm) fun k hk => ho.block k ?_ fun e => h2 (by rw [hk, e]), h.row.only ho fun bb off e hl => h3 bb off e hl, h.apart⟩
  obtain ⟨_, _, _, hO⟩ := h.book.box
  exact hO.lt hk
end Go.Proofs.Ytilbhnloelgpdaa
