/- The reference's auction in memory, beside the plain one. -/
import Derived.Test.YtccmafmeblojpaaBytes
namespace Go.Proofs.Ytccmafmeblojpaa
open Go.RowKit
set_option linter.unusedVariables false
def Auc.wasl (a : Auc) : List Int := a.l.map (·.1)
theorem Auc.wasl_length (a : Auc) : a.wasl.length = a.l.length := by simp [Auc.wasl]
theorem Auc.nowl_length (a : Auc) : a.nowl.length = a.l.length := by simp [Auc.nowl]
theorem Auc.wasl_at (a : Auc) {i : Nat} (h : i < a.l.length) : a.wasl.getD i 0 = (a.l.getD i (0, 0)).1 := by
  unfold Auc.wasl
  rw [List.getD_eq_getElem?_getD, List.getD_eq_getElem?_getD, List.getElem?_map, List.getElem?_eq_getElem h]; rfl
theorem getD_mem_l {a : Auc} {i : Nat} (h : i < a.l.length) : a.l.getD i (0, 0) ∈ a.l := by
  rw [List.getD_eq_getElem?_getD, List.getElem?_eq_getElem h]; exact List.getElem_mem h
theorem Auc.nowl_bound {a : Auc} (h : a.Ok) : ∀ g ∈ a.nowl, 0 ≤ g ∧ g ≤ 1048576 := fun g hg => by
  obtain ⟨p, hp, rfl⟩ := List.mem_map.1 hg
  have := h.each p hp
  exact ⟨this.2.2.1, this.2.2.2⟩
/-- What was made since w stays, and what was there: then so does this. -/
def Lasts (w w' : World) (pre post : World → Prop) : Prop := ∀ W' : World, w'.heap.size ≤ W'.heap.size → (∀ b, w.heap.size ≤ b → b < w'.heap.size → W'.heap[b]? = w'.heap[b]?) → pre W' → post W'
theorem Lasts.now {w w' : World} {pre post : World → Prop} (h : Lasts w w' pre post) (hp : pre w') : post w' := h w' (Nat.le_refl _) (fun _ _ _ => rfl) hp
theorem Lasts.same (w w' : World) (pre : World → Prop) : Lasts w w' pre pre := fun _ _ _ h => h
/-- Rounds as cells: slices of m numbers. -/
def svals (m : Nat) (XS : List (Option Addr × Nat)) : List Value := XS.map fun x => .slice x.1 m x.2
theorem svals_length (m : Nat) (XS : List (Option Addr × Nat)) : (svals m XS).length = XS.length := by simp [svals]
theorem svals_one (m : Nat) (XS : List (Option Addr × Nat)) : ∀ u ∈ svals m XS, u.oneCell' = true := fun u hu => by
  obtain ⟨x, _, rfl⟩ := List.mem_map.1 hu; rfl
theorem svals_at (m : Nat) (XS : List (Option Addr × Nat)) {i : Nat} (h : i < XS.length) : (svals m XS).getD i (.bool false) = .slice (XS.getD i (none, 0)).1 m (XS.getD i (none, 0)).2 := by
  unfold svals
  rw [List.getD_eq_getElem?_getD, List.getD_eq_getElem?_getD, List.getElem?_map, List.getElem?_eq_getElem h]; rfl
/-- The rounds in memory: the last one is what all want now, the one ahead what they wanted. -/
structure RA (A : Option Addr) (XS : List (Option Addr × Nat)) (a : Auc) (w : World) : Prop where
  rows : Row w A XS.length fun j => (svals a.l.length XS).getD j (.bool false)
  now : IRow w (XS.getD (XS.length - 1) (none, 0)).1 a.nowl
  was : 2 ≤ XS.length → IRow w (XS.getD (XS.length - 2) (none, 0)).1 a.wasl
theorem RA.below {w w' : World} {A : Option Addr} {XS : List (Option Addr × Nat)} {a : Auc} (h : RA A XS a w) (hb : Below w.heap.size w w') : RA A XS a w' := ⟨Row.below h.rows hb, h.now.below hb, fun h2 => (h.was h2).below hb⟩
theorem RA.cell {w : World} {A : Option Addr} {XS : List (Option Addr × Nat)} {a : Auc} (h : RA A XS a w) {i : Nat} (hi : i < XS.length) : ∃ b o, A = some ⟨b, o, none⟩ ∧ b < w.heap.size ∧ w.cell? ⟨b, o + i, none⟩ = some (.slice (XS.getD i (none, 0)).1 a.l.length (XS.getD i (none, 0)).2) := by
  obtain ⟨b, o, e, h1, h2⟩ := Row.at_ h.rows hi
  exact ⟨b, o, e, h1, by rw [h2, svals_at _ _ hi]⟩
theorem Row.src {w : World} {A : Option Addr} {n : Nat} {xs : List Value} (h : Row w A n fun j => xs.getD j (.bool false)) (hl : xs.length = n) (h1 : ∀ u ∈ xs, u.oneCell' = true) {k : Nat} (hk : k ≤ n) (c : Nat) {tx e : TypeId} (ht : Try.prog.underlying tx = some (.slice e)) : Src Try.prog 1 tx (.slice A k c) k (xs.take k) w := by
  have hlk : (xs.take k).length = k * 1 := by rw [List.length_take, hl]; omega
  rcases h with h | ⟨b, o, rfl, h2, h3⟩
  · have hk0 : k = 0 := by omega
    subst hk0
    cases A with
    | none => exact Src.ofNil w ht c
    | some a => exact Src.ofSlice _ ht a 0 c [] rfl (fun j u hu => by simp at hu) (fun u hu => by simp at hu)
  · refine Src.ofSlice _ ht ⟨b, o, none⟩ k c (xs.take k) hlk (fun j u hu => ?_) fun u hu => h1 u (List.mem_of_mem_take hu)
    have hj : j < k * 1 := by rw [← hlk]; exact (List.getElem?_eq_some_iff.1 hu).1
    rw [show (⟨b, o, none⟩ : Addr).add j = ⟨b, o + j, none⟩ from by simp [Addr.add_lit], h3 j (by omega)]
    show some (xs.getD j _) = some u
    rw [List.getElem?_take, if_pos (by omega)] at hu
    rw [List.getD_eq_getElem?_getD, hu]; rfl
theorem IRow.src {w : World} {A : Option Addr} {L : List Int} (h : IRow w A L) {n : Nat} (hn : L.length = n) (c : Nat) : Src Try.prog 1 22 (.slice A n c) n (icells L) w := by
  have h2 : Row w A n fun j => (icells L).getD j (.bool false) := by
    subst hn
    refine Row.of_eq h fun j hj => ?_
    rw [List.getD_eq_getElem?_getD (l := icells L), icells_get L hj]; rfl
  have := Row.src h2 (by simp [icells, hn]) (fun u hu => by obtain ⟨x, _, rfl⟩ := List.mem_map.1 hu; rfl) (Nat.le_refl n) c Try.underlying22
  rwa [List.take_of_length_le (by simp [icells, hn])] at this
theorem RA.src {w : World} {A : Option Addr} {XS : List (Option Addr × Nat)} {a : Auc} (h : RA A XS a w) {k : Nat} (hk : k ≤ XS.length) (c : Nat) : Src Try.prog 1 54 (.slice A k c) k (svals a.l.length (XS.take k)) w := by
  have := Row.src h.rows (svals_length _ _) (svals_one _ _) hk c Try.underlying54
  unfold svals at *
  rwa [← List.map_take] at this
theorem Mine.srow {w0 w : World} {A : Option Addr} {n c : Nat} {m : Nat} {XS : List (Option Addr × Nat)} (h : Mine w0 w 1 (.slice A n c) n (svals m XS)) (hn : XS.length = n) : Row w A XS.length fun j => (svals m XS).getD j (.bool false) := by
  obtain ⟨A', c', e, _, _, h3⟩ := h.row
  cases e
  rw [Nat.mul_one] at h3
  rw [hn]; exact h3
theorem info_ints : (Try.prog.info? 22).map (fun i => (i.zero, i.size, i.bytes)) = some (some (.slice none 0 0), 1, 24) := by kernel_rfl
/-- The value of the reference's auction. -/
def rval (a : Auc) (A : Option Addr) (n c : Nat) : Value := .agg #[.int .i64 a.supply, .int .i64 a.start, .int .i64 a.step, .int .i64 a.state, .slice A n c]
/-- How the reference's auction stands beside the plain one. -/
structure Beside (a : Auc) (n : Nat) : Prop where
  ok : a.Ok
  fair : a.Fair
  round : a.round = (n : Int)
  pos : 1 ≤ n
  few : n ≤ 200
