/- An append leaves the cells that were there as they were; at a step of a region that draws. -/
import Derived.Test.YtilbhnloelgpdaaOwn
namespace Go.Proofs.Ytilbhnloelgpdaa
open Go.RowKit
section
variable {w w0 : World} {sz : Nat} {v : Value} {b : Option Nat} {n : Nat} {xs : List Value}
theorem run_append_keep {P : Program} {g off c : Nat} (h : Own w sz (.slice (some ⟨g, off, none⟩) n c) b n xs) (t tx ty e : TypeId) (i : TypeInfo) (z : Value) (bytes : Nat) (ht : P.underlying t = some (.slice e)) (hi : P.info? e = some i) (hz : i.zero = some z) (hsize : i.size = sz) (hby : i.bytes = bytes)
    (x : Value) (m : Nat) (news : List Value) (hs : Src P sz tx x m news w) (h63 : n + m ≤ maxLen) (hbytes : (n + m) * bytes ≤ 140737488355328)
    {v' : Value} {w' : World} (hrun : (Builtin.append_ #[t, tx] ty #[.slice (some ⟨g, off, none⟩) n c, x]).run P w = .ok v' w') (j : Nat) (hj : j < n * sz) : w'.cell? ⟨g, off + j, none⟩ = w.cell? ⟨g, off + j, none⟩ := by
  subst hsize
  subst hby
  have hfc := cells_grown h
  have hlt : ∀ k, b = some k → k < w.heap.size := fun k hk => h.lt hk
  obtain ⟨h0, A, c', heq, h1, h2, h3⟩ := h
  cases heq
  have hnl := hs.newsLen
  rcases h3 with ⟨rfl, rfl⟩ | ⟨g', off', rfl, heq, hg, h5, h6⟩
  · have hn : n = 0 := by omega
    rw [hn, Nat.zero_mul] at hj
    omega
  · cases heq
    by_cases hroom : n + m ≤ c
    · have hle : n * i.size + m * i.size ≤ c * i.size := by rw [← Nat.add_mul]; exact Nat.mul_le_mul_right _ hroom
      have hc : ∀ j, j < news.length → (w.cell? ⟨g, off + n * i.size + j, none⟩).isSome = true := fun j hj => by rw [Nat.add_assoc]; exact (h5 _ (by omega)).1
      have hf : ∀ j, j < news.length → w.frozen? ⟨g, off + n * i.size + j, none⟩ = false := fun j hj => by rw [Nat.add_assoc]; exact (h5 _ (by omega)).2
      have e1 := run_append_room_src (P := P) w t tx ty e i ht hi g off n c x m news hs hroom hc hf
      rw [e1] at hrun
      cases hrun
      exact World.cell?_setCells_out g news (off + n * i.size) w ⟨g, off + j, none⟩ (fun _ _ => by show off + j < _ ∨ _ ≤ off + j; omega)
    · have hr := run_append_grow_src (P := P) w t tx ty e i z ht hi hz (some ⟨g, off, none⟩) n c xs (hfc _ c rfl P) x m news hs (by omega) (by simp only [maxLen] at h63; omega) (growslice_fits (by omega) hbytes)
      rw [hr] at hrun
      cases hrun
      exact World.cell?_of_block (a := ⟨g, off + j, none⟩) (heap_alloc_old w.drew _ g hg)
theorem step_append_keep {P : Program} {ops : Array Oper} {o : Oper} {a : Act} {K : Act → World → Prop} {Q : Exit → Act → World → Prop} {E : Prop} (hgd : o.guard = none) (s x : Operand) (t tx : TypeId)
    (ho : o.op = .call { callee := .builtin .append, args := #[s, x], argTypes := #[t, tx] })
    (e : TypeId) (i : TypeInfo) (z : Value) (bytes : Nat) (ht : P.underlying t = some (.slice e)) (hi : P.info? e = some i) (hz : i.zero = some z) (hsize : i.size = sz) (hby : i.bytes = bytes) (hzs : z.cells.size = sz) (hsz : 0 < sz)
    (g off c : Nat) (hv : a.eval s = .slice (some ⟨g, off, none⟩) n c) (h : Mine w0 w sz (.slice (some ⟨g, off, none⟩) n c) n xs) (hbl : Below w0.heap.size w0 w) (xv : Value) (m : Nat) (news : List Value) (hx : a.eval x = xv) (hs : Src P sz tx xv m news w) (h63 : n + m ≤ maxLen) (hbytes : (n + m) * bytes ≤ 140737488355328)
    (hK : ∀ A c w', Mine w0 w' sz (.slice A (n + m) c) (n + m) (xs ++ news) → Below w0.heap.size w0 w' → (∀ j, j < n * sz → w'.cell? ⟨g, off + j, none⟩ = w.cell? ⟨g, off + j, none⟩) → K (a.put o.dst (.slice A (n + m) c)) w') :
    if Region.wanted o (yielded ops a.tmps) = true then Oper.wp P o a w K Q else E := by
  have hw : Region.wanted o (yielded ops a.tmps) = true := by simp [Region.wanted, hgd]
  rw [if_pos hw]
  obtain ⟨b, h1, h2⟩ := h
  obtain ⟨v', w', b', hrun, h3, h4, h5⟩ := run_append_own2 (P := P) h1 t tx o.type e i z bytes ht hi hz hsize hby hzs hsz xv m news hs h63 hbytes
  have hk := fun j hj => run_append_keep (P := P) h1 t tx o.type e i z bytes ht hi hz hsize hby xv m news hs h63 hbytes hrun j hj
  obtain ⟨hl, A, c, rfl, hrest⟩ := h3
  unfold Oper.wp execOp
  simp only [ho, resolve, invoke, builtin, Sem.run_bind, Sem.run_pure, Result.andThen_ok, List.map_toArray, List.map_cons, List.map_nil, hv, hx, hrun]
  refine hK _ _ _ ⟨b', ⟨hl, A, c, rfl, hrest⟩, fun g hg' => ?_⟩ (below_grown hbl h4 h2) hk
  rcases h5 with hb | hb
  · exact h2 g (hb ▸ hg')
  · rw [hb] at hg'; cases hg'; exact hbl.size
/-- A store into one of its elements. -/
theorem Mine.store {A : Option Addr} {c : Nat} (h : Mine w0 w 1 (.slice A n c) n xs) {j : Nat} (hj : j < n) :
    ∃ g off, A = some ⟨g, off, none⟩ ∧ w0.heap.size ≤ g ∧ w.cell? ⟨g, off + j, none⟩ = xs[j]? ∧ w.frozen? ⟨g, off + j, none⟩ = false ∧ ∀ u, Mine w0 (w.setCell ⟨g, off + j, none⟩ u) 1 (.slice A n c) n (xs.set j u) := by
  obtain ⟨b, ⟨h0, A', c', heq, h1, h2, h3⟩, hb⟩ := h
  cases heq
  rcases h3 with ⟨_, h4⟩ | ⟨g, off, rfl, rfl, hg, h5, h6⟩
  · omega
  · obtain ⟨hs, hf⟩ := h5 j (by omega)
    refine ⟨g, off, rfl, hb g rfl, h6 j (by omega), hf, fun u => ⟨some g, ⟨by rw [List.length_set]; exact h0, _, _, rfl, h1, h2, .inr ⟨g, off, rfl, rfl, by simpa using hg, fun i hi => ⟨?_, ?_⟩, fun i hi => ?_⟩⟩, hb⟩⟩
    · by_cases e : i = j
      · subst e
        obtain ⟨x, hx⟩ := Option.isSome_iff_exists.1 hs
        rw [World.cell?_setCell_same' _ _ _ hs]; rfl
      · rw [World.cell?_setCell_other _ _ _ _ (by simp; omega)]; exact (h5 i hi).1
    · rw [World.frozen?_setCell]; exact (h5 i hi).2
    · by_cases e : i = j
      · subst e
        obtain ⟨x, hx⟩ := Option.isSome_iff_exists.1 hs
        rw [World.cell?_setCell_same' _ _ _ hs, List.getElem?_set_self (by omega)]
      · rw [World.cell?_setCell_other _ _ _ _ (by simp; omega), List.getElem?_set_ne (by omega)]; exact h6 i hi
end
end Go.Proofs.Ytilbhnloelgpdaa
