/- A slice whose cells are the walk's to write, from whatever offset on: reading, cutting, appending to it. -/
import Derived.Test.YtilbhnloelgpdaaMem
import Derived.Deep.AppendSrc
import Derived.Laws.IdiomCopy
import Derived.Deep.Upon
namespace Go.Proofs.Ytilbhnloelgpdaa
open Go.RowKit

/-- v is a slice of n elements of sz cells each, which hold xs; all its cells up to the capacity may be written; they lie in block b, if there are any. -/
def Own (w : World) (sz : Nat) (v : Value) (b : Option Nat) (n : Nat) (xs : List Value) : Prop :=
  xs.length = n * sz ∧ ∃ A c, v = .slice A n c ∧ n ≤ c ∧ c ≤ maxLen ∧
    ((b = none ∧ c = 0) ∨ ∃ g off, b = some g ∧ A = some ⟨g, off, none⟩ ∧ g < w.heap.size ∧ (∀ j, j < c * sz → (w.cell? ⟨g, off + j, none⟩).isSome = true ∧ w.frozen? ⟨g, off + j, none⟩ = false) ∧
      ∀ j, j < n * sz → w.cell? ⟨g, off + j, none⟩ = xs[j]?)

section
variable {w w' : World} {sz : Nat} {v : Value} {b : Option Nat} {n : Nat} {xs : List Value}
theorem Own.none_ (w : World) (sz : Nat) : Own w sz (.slice none 0 0) none 0 [] := ⟨by simp, none, 0, rfl, Nat.le_refl _, Nat.zero_le _, .inl ⟨rfl, rfl⟩⟩
theorem Own.len (h : Own w sz v b n xs) : xs.length = n * sz := h.1
theorem Own.lt (h : Own w sz v b n xs) {g : Nat} (hb : b = some g) : g < w.heap.size := by
  obtain ⟨_, A, c, _, _, _, ⟨h1, _⟩ | ⟨g', off, h1, _, h2, _⟩⟩ := h
  · rw [hb] at h1; cases h1
  · rw [hb] at h1; cases h1; exact h2
/-- It looks at its own block alone. -/
theorem Own.carry (h : Own w sz v b n xs) (hs : w.heap.size ≤ w'.heap.size) (hb : ∀ g, b = some g → w'.heap[g]? = w.heap[g]?) : Own w' sz v b n xs := by
  obtain ⟨h0, A, c, hv, h1, h2, ⟨h3, h4⟩ | ⟨g, off, h3, hA, h4, h5, h6⟩⟩ := h
  · exact ⟨h0, A, c, hv, h1, h2, .inl ⟨h3, h4⟩⟩
  · have e := hb g h3
    refine ⟨h0, A, c, hv, h1, h2, .inr ⟨g, off, h3, hA, by omega, fun j hj => ?_, fun j hj => ?_⟩⟩
    · rw [World.cell?_of_block (a := ⟨g, off + j, none⟩) e, World.frozen?_of_block (a := ⟨g, off + j, none⟩) e]; exact h5 j hj
    · rw [World.cell?_of_block (a := ⟨g, off + j, none⟩) e]; exact h6 j hj
theorem Own.below (h : Own w sz v b n xs) (hb : Below w.heap.size w w') : Own w' sz v b n xs := h.carry hb.size fun g hg => hb.block g (h.lt hg)
theorem Own.grown (h : Own w sz v b n xs) {r : Option Nat} (hg : w.grownBy w' r) (hr : ∀ g, b = some g → r ≠ some g) : Own w' sz v b n xs :=
  h.carry hg.size fun g hb => hg.block g (h.lt hb) fun e => hr g hb e.symm
theorem Own.row (h : Own w sz v b n xs) : ∃ A c, v = .slice A n c ∧ n ≤ c ∧ c ≤ maxLen ∧ Row w A (n * sz) fun j => xs.getD j (.bool false) := by
  obtain ⟨h0, A, c, hv, h1, h2, ⟨h3, h4⟩ | ⟨g, off, h3, hA, h4, h5, h6⟩⟩ := h
  · refine ⟨A, c, hv, h1, h2, .inl ?_⟩
    have : n = 0 := by omega
    rw [this, Nat.zero_mul]
  · refine ⟨A, c, hv, h1, h2, .inr ⟨g, off, hA, h4, fun j hj => ?_⟩⟩
    have hj2 : j < xs.length := by omega
    rw [h6 j hj]
    simp [List.getElem?_eq_getElem hj2]
/-- What was made as the kit's laws tell it. -/
theorem Own.of_ownsRow {base : Nat} {e : TypeId} (h : w.ownsRow base e sz v n xs) : ∃ b, Own w sz v b n xs ∧ (b = none ∨ ∃ g, b = some g ∧ base ≤ g) := by
  obtain ⟨h0, ⟨rfl, rfl⟩ | ⟨g, c, cur, rfl, hb, hh, hnc, hcm, hsz, ht⟩⟩ := h
  · exact ⟨none, ⟨h0, none, 0, rfl, Nat.le_refl _, Nat.zero_le _, .inl ⟨rfl, rfl⟩⟩, .inl rfl⟩
  · refine ⟨some g, ⟨h0, _, c, rfl, hnc, hcm, .inr ⟨g, 0, rfl, rfl, (Array.getElem?_eq_some_iff.1 hh).1, fun j hj => ?_, fun j hj => ?_⟩⟩, .inr ⟨g, rfl, hb⟩⟩
    · rw [Nat.zero_add, cell_of_row w g j cur e (0, 0) hh]
      refine ⟨?_, frozen_of_row w g j cur e hh⟩
      rw [Array.getElem?_eq_getElem (by omega)]; rfl
    · rw [Nat.zero_add, cell_of_row w g j cur e (0, 0) hh, ← ht, List.getElem?_take_of_lt hj, Array.getElem?_toList]
theorem cells_grown (h : Own w sz v b n xs) : ∀ A c, v = .slice A n c → ∀ P : Program, (Builtin.firstCells sz n (.slice A n c)).run P w.drew = .ok xs.toArray w.drew := by
  intro A c hv P
  obtain ⟨h0, A', c', hv', h1, h2, h3⟩ := h
  rw [hv] at hv'
  cases hv'
  rcases h3 with ⟨_, h4⟩ | ⟨g, off, _, rfl, _, _, h6⟩
  · have hn : n = 0 := by omega
    subst hn
    have hx : xs = [] := List.eq_nil_of_length_eq_zero (by omega)
    subst hx
    cases A with
    | none => exact run_firstCells_none w.drew sz 0 0 c
    | some a => exact run_firstCells_some w.drew sz 0 a 0 c [] (by simp) (by simp)
  · refine run_firstCells_some w.drew sz n _ n c xs h0 fun j u hu => ?_
    have hj : j < n * sz := by rw [← h0]; exact (List.getElem?_eq_some_iff.1 hu).1
    rw [← hu, ← h6 j hj]
    simp [Addr.add_lit]
theorem tape_setCells (b : Nat) : ∀ (vs : List Value) (o : Nat) (w : World), (w.setCells b o vs).tape = w.tape
  | [], _, _ => rfl
  | _ :: vs, o, w => by
    show ((w.setCell _ _).setCells b (o + 1) vs).tape = _
    rw [tape_setCells b vs (o + 1)]; rfl
/-- n more elements at its end. -/
theorem run_append_own2 {P : Program} (h : Own w sz v b n xs) (t tx ty e : TypeId) (i : TypeInfo) (z : Value) (bytes : Nat) (ht : P.underlying t = some (.slice e)) (hi : P.info? e = some i) (hz : i.zero = some z) (hsize : i.size = sz) (hby : i.bytes = bytes) (hzs : z.cells.size = sz) (hsz : 0 < sz)
    (x : Value) (m : Nat) (news : List Value) (hs : Src P sz tx x m news w) (h63 : n + m ≤ maxLen) (hbytes : (n + m) * bytes ≤ 140737488355328) :
    ∃ v' w' b', (Builtin.append_ #[t, tx] ty #[v, x]).run P w = .ok v' w' ∧ Own w' sz v' b' (n + m) (xs ++ news) ∧ w.grownBy w' b ∧ (b' = b ∨ b' = some w.heap.size) := by
  subst hsize
  subst hby
  have hfc := cells_grown h
  obtain ⟨h0, A, c, rfl, h1, h2, h3⟩ := h
  have hnl := hs.newsLen
  have hlen : (xs ++ news).length = (n + m) * i.size := by rw [List.length_append, h0, hnl, Nat.add_mul]
  by_cases hroom : n + m ≤ c
  · rcases h3 with ⟨rfl, rfl⟩ | ⟨g, off, rfl, rfl, hg, h5, h6⟩
    · have hn : n = 0 := by omega
      have hm : m = 0 := by omega
      subst hn
      subst hm
      have hx : news = [] := List.eq_nil_of_length_eq_zero (by omega)
      subst hx
      exact ⟨_, _, none, run_append_nothing w t tx ty e i ht hi A 0 0 (Nat.le_refl _) x hs, ⟨by simpa using h0, A, 0, rfl, Nat.le_refl _, Nat.zero_le _, .inl ⟨rfl, rfl⟩⟩, World.grownBy.refl w _, .inl rfl⟩
    · have hle : n * i.size + m * i.size ≤ c * i.size := by rw [← Nat.add_mul]; exact Nat.mul_le_mul_right _ hroom
      have hc : ∀ j, j < news.length → (w.cell? ⟨g, off + n * i.size + j, none⟩).isSome = true := fun j hj => by rw [Nat.add_assoc]; exact (h5 _ (by omega)).1
      have hf : ∀ j, j < news.length → w.frozen? ⟨g, off + n * i.size + j, none⟩ = false := fun j hj => by rw [Nat.add_assoc]; exact (h5 _ (by omega)).2
      refine ⟨_, _, some g, run_append_room_src w t tx ty e i ht hi g off n c x m news hs hroom hc hf, ⟨hlen, _, c, rfl, hroom, h2, .inr ⟨g, off, rfl, rfl, ?_, fun j hj => ⟨?_, ?_⟩, fun j hj => ?_⟩⟩, ?_, .inl rfl⟩
      · have := (World.keptBut_setCells g (may := fun _ => True) news (off + n * i.size) w (fun _ _ => trivial)).size
        omega
      · by_cases hj2 : n * i.size ≤ j ∧ j < n * i.size + news.length
        · have := World.cell?_setCells_in g news (off + n * i.size) w hc (j - n * i.size) (by omega)
          rw [show off + n * i.size + (j - n * i.size) = off + j from by omega] at this
          rw [this]; rfl
        · rw [World.cell?_setCells_out g news (off + n * i.size) w ⟨g, off + j, none⟩ (fun _ _ => by show off + j < _ ∨ _ ≤ off + j; omega)]
          exact (h5 j hj).1
      · rw [World.frozen?_setCells]; exact (h5 j hj).2
      · rw [Nat.add_mul] at hj
        by_cases hj2 : j < n * i.size
        · rw [World.cell?_setCells_out g news (off + n * i.size) w ⟨g, off + j, none⟩ (fun _ _ => by show off + j < _ ∨ _ ≤ off + j; omega), List.getElem?_append_left (by omega)]
          exact h6 j hj2
        · have := World.cell?_setCells_in g news (off + n * i.size) w hc (j - n * i.size) (by omega)
          rw [show off + n * i.size + (j - n * i.size) = off + j from by omega] at this
          rw [this, List.getElem?_append_right (by omega), h0, List.getElem?_eq_getElem (by omega)]
      · have hk := World.keptBut_setCells g (may := fun p => p.block = g) news (off + n * i.size) w (fun _ _ => rfl)
        exact ⟨World.os_setCells .., tape_setCells .., World.output_setCells .., hk.size, fun k hk hne => World.heap_setCells_other w g _ news hk fun e => hne (by rw [e])⟩
  · have hsmall : n + m ≤ 9223372036854775807 := by simp only [maxLen] at h63; omega
    have hge := grownCap_ge w (n + m) c e
    have hcm : grownCap w (n + m) c e ≤ maxLen := grownCap_le_maxLen w (n + m) c e h63
    have hr := run_append_grow_src (P := P) w t tx ty e i z ht hi hz A n c xs (hfc A c rfl P) x m news hs (by omega) (by omega) (growslice_fits (by omega) hbytes)
    have hh := heap_alloc_new w.drew (.cells ((xs ++ news).toArray ++ Builtin.zeroCells z.cells (grownCap w (n + m) c e - (n + m))) e)
    refine ⟨_, _, some w.heap.size, hr, ⟨hlen, _, _, rfl, hge, hcm, .inr ⟨w.heap.size, 0, rfl, rfl, by simp, fun j hj => ?_, fun j hj => ?_⟩⟩, ⟨rfl, rfl, rfl, by simp, fun k hk _ => heap_alloc_old w.drew _ k hk⟩, .inr rfl⟩
    · rw [Nat.zero_add, cell_of_row _ w.heap.size j _ e (0, 0) hh]
      refine ⟨?_, frozen_of_row _ w.heap.size j _ e hh⟩
      have hsz2 : ((xs ++ news).toArray ++ Builtin.zeroCells z.cells (grownCap w (n + m) c e - (n + m))).size = grownCap w (n + m) c e * i.size := by
        rw [Array.size_append, List.size_toArray, size_zeroCells, hzs, hlen, ← Nat.add_mul]
        congr 1
        omega
      rw [Array.getElem?_eq_getElem (by omega)]; rfl
    · rw [Nat.zero_add, cell_of_row _ w.heap.size j _ e (0, 0) hh, Array.getElem?_append_left (by simpa [hlen] using hj)]
      simp
/-- The same, for the walk. -/
theorem wpList_append_own2 {P : Program} {ops : Array Oper} {rest : List Oper} {o : Oper} {a : Act} {Q : Exit → Act → World → Prop} (hgd : o.guard = none) (s x : Operand) (t tx : TypeId)
    (ho : o.op = .call { callee := .builtin .append, args := #[s, x], argTypes := #[t, tx] })
    (e : TypeId) (i : TypeInfo) (z : Value) (bytes : Nat) (ht : P.underlying t = some (.slice e)) (hi : P.info? e = some i) (hz : i.zero = some z) (hsize : i.size = sz) (hby : i.bytes = bytes) (hzs : z.cells.size = sz) (hsz : 0 < sz)
    (hv : a.eval s = v) (h : Own w sz v b n xs) (xv : Value) (m : Nat) (news : List Value) (hx : a.eval x = xv) (hs : Src P sz tx xv m news w) (h63 : n + m ≤ maxLen) (hbytes : (n + m) * bytes ≤ 140737488355328)
    (hK : ∀ A c w' b', Own w' sz (.slice A (n + m) c) b' (n + m) (xs ++ news) → w.grownBy w' b → (b' = b ∨ b' = some w.heap.size) → wpList P ops Q rest (a.put o.dst (.slice A (n + m) c)) w') : wpList P ops Q (o :: rest) a w := by
  refine wpList_plain hgd fun K hK' => ?_
  obtain ⟨v', w', b', hrun, h1, h2, h3⟩ := run_append_own2 (P := P) h t tx o.type e i z bytes ht hi hz hsize hby hzs hsz xv m news hs h63 hbytes
  obtain ⟨hl, A, c, rfl, hrest⟩ := h1
  unfold Oper.wp execOp
  simp only [ho, resolve, invoke, builtin, Sem.run_bind, Sem.run_pure, Result.andThen_ok, List.map_toArray, List.map_cons, List.map_nil, hv, hx, hrun]
  exact hK' _ _ (hK A c w' b' ⟨hl, A, c, rfl, hrest⟩ h2 h3)
/-- A cut of it. -/
theorem Own.cut {A : Option Addr} {c : Nat} (h : Own w sz (.slice A n c) b n xs) {l r : Nat} (hlr : l ≤ r) (hr : r ≤ n) :
    ∃ b', Own w sz (.slice (if c = l then A else A.map (·.add (l * sz))) (r - l) (c - l)) b' (r - l) ((xs.drop (l * sz)).take ((r - l) * sz)) ∧ (b' = b ∨ b' = none) := by
  obtain ⟨h0, A', c', hv, h1, h2, h3⟩ := h
  cases hv
  have hl : ((xs.drop (l * sz)).take ((r - l) * sz)).length = (r - l) * sz := by
    rw [List.length_take, List.length_drop, h0, ← Nat.sub_mul]
    exact Nat.min_eq_left (Nat.mul_le_mul_right _ (by omega))
  by_cases hc : c = l
  · refine ⟨none, ⟨hl, _, _, rfl, by omega, by omega, .inl ⟨rfl, by omega⟩⟩, .inr rfl⟩
  · rcases h3 with ⟨rfl, rfl⟩ | ⟨g, off, rfl, rfl, hg, h5, h6⟩
    · omega
    · refine ⟨some g, ⟨hl, _, _, rfl, by omega, by omega, .inr ⟨g, off + l * sz, rfl, ?_, hg, fun j hj => ?_, fun j hj => ?_⟩⟩, .inl rfl⟩
      · rw [if_neg hc]; simp [Addr.add_lit]
      · have : l * sz + (c - l) * sz = c * sz := by rw [← Nat.add_mul]; congr 1; omega
        rw [Nat.add_assoc]; exact h5 _ (by omega)
      · have e1 : l * sz + (r - l) * sz = r * sz := by rw [← Nat.add_mul]; congr 1; omega
        have e2 : r * sz ≤ n * sz := Nat.mul_le_mul_right _ hr
        rw [Nat.add_assoc, h6 _ (by omega), List.getElem?_take_of_lt hj, List.getElem?_drop]
end
/-- Of what was there only the blocks of S may have turned. -/
structure Only (S : Nat → Prop) (w w' : World) : Prop where
  os : w'.os = w.os
  tape : w'.tape = w.tape
  output : w'.output = w.output
  size : w.heap.size ≤ w'.heap.size
  block : ∀ k, k < w.heap.size → ¬ S k → w'.heap[k]? = w.heap[k]?
section
variable {S S' : Nat → Prop} {w w1 w2 : World}
theorem Only.refl (S : Nat → Prop) (w : World) : Only S w w := ⟨rfl, rfl, rfl, Nat.le_refl _, fun _ _ _ => rfl⟩
theorem Only.trans (h : Only S w w1) (h' : Only S' w1 w2) (hs : ∀ k, S' k → S k ∨ w.heap.size ≤ k) : Only S w w2 :=
  ⟨h'.os.trans h.os, h'.tape.trans h.tape, h'.output.trans h.output, Nat.le_trans h.size h'.size, fun k hk hn =>
    (h'.block k (Nat.lt_of_lt_of_le hk h.size) fun e => (hs k e).elim hn (by omega)).trans (h.block k hk hn)⟩
theorem Only.mono (h : Only S w w1) (hs : ∀ k, S k → S' k) : Only S' w w1 := ⟨h.os, h.tape, h.output, h.size, fun k hk hn => h.block k hk fun e => hn (hs k e)⟩
theorem Only.of_below (h : Below w.heap.size w w1) : Only S w w1 := ⟨h.os, h.tape, h.output, h.size, fun k hk _ => h.block k hk⟩
theorem Only.of_grown {b : Option Nat} (h : w.grownBy w1 b) : Only (fun k => some k = b) w w1 := ⟨h.os, h.tape, h.output, h.size, fun k hk hn => h.block k hk hn⟩
theorem Only.below (h : Only S w w1) {B : Nat} (hB : B ≤ w.heap.size) (hs : ∀ k, S k → B ≤ k) : Below B w w1 :=
  ⟨h.os, h.tape, h.output, h.size, fun k hk => h.block k (by omega) fun e => by have := hs k e; omega⟩
theorem Only.then_below (h : Only S w w1) (h' : Below w1.heap.size w1 w2) : Only S w w2 := h.trans (S' := fun _ => False) (Only.of_below h') fun _ e => e.elim
theorem Only.drewN (h : Only S w w1) (n : Nat) : Only S w (w1.drewN n) := ⟨h.os, h.tape, h.output, h.size, h.block⟩
theorem Only.setCell (h : Only S w w1) {g j : Nat} (hg : S g ∨ w.heap.size ≤ g) (v : Value) : Only S w (w1.setCell ⟨g, j, none⟩ v) := by
  have hb : Below g w1 (w1.setCell ⟨g, j, none⟩ v) := (Below.refl g w1).setCell (p := ⟨g, j, none⟩) (Nat.le_refl _) v
  exact ⟨hb.os.trans h.os, hb.tape.trans h.tape, hb.output.trans h.output, Nat.le_trans h.size hb.size, fun k hk hn => (heap_setCell_other w1 ⟨g, j, none⟩ k v (by rintro rfl; rcases hg with hg | hg <;> first | exact hn hg | omega)).trans (h.block k hk hn)⟩
end
section
variable {w w' w0 : World} {sz : Nat} {v : Value} {b : Option Nat} {n : Nat} {xs : List Value}
theorem Own.src (h : Own w sz v b n xs) (h1 : ∀ u ∈ xs, u.oneCell' = true) {P : Program} {tx e : TypeId} (ht : P.underlying tx = some (.slice e)) : Src P sz tx v n xs w := by
  obtain ⟨h0, A, c, rfl, hrest⟩ := h
  have hd := cells_grown ⟨h0, A, c, rfl, hrest⟩ A c rfl P
  obtain ⟨_, _, h3⟩ := hrest
  refine ⟨.inl ⟨e, ht⟩, fun _ => rfl, ?_, hd, h0, h1⟩
  rcases h3 with ⟨_, h4⟩ | ⟨g, off, _, rfl, _, _, h6⟩
  · have hn : n = 0 := by omega
    subst hn
    have hx : xs = [] := List.eq_nil_of_length_eq_zero (by omega)
    subst hx
    cases A with
    | none => exact run_firstCells_none w sz 0 0 c
    | some a => exact run_firstCells_some w sz 0 a 0 c [] (by simp) (by simp)
  · refine run_firstCells_some w sz n _ n c xs h0 fun j u hu => ?_
    have hj : j < n * sz := by rw [← h0]; exact (List.getElem?_eq_some_iff.1 hu).1
    rw [← hu, ← h6 j hj]
    simp [Addr.add_lit]
/-- It was made behind w0. -/
def Mine (w0 w : World) (sz : Nat) (v : Value) (n : Nat) (xs : List Value) : Prop := ∃ b, Own w sz v b n xs ∧ ∀ g, b = some g → w0.heap.size ≤ g
theorem Mine.empty (w0 w : World) (sz : Nat) (A : Option Addr) : Mine w0 w sz (.slice A 0 0) 0 [] := ⟨none, ⟨by simp, A, 0, rfl, Nat.le_refl _, Nat.zero_le _, .inl ⟨rfl, rfl⟩⟩, nofun⟩
theorem Mine.carry (h : Mine w0 w sz v n xs) (hs : w.heap.size ≤ w'.heap.size) (hb : ∀ g, w0.heap.size ≤ g → g < w.heap.size → w'.heap[g]? = w.heap[g]?) : Mine w0 w' sz v n xs := by
  obtain ⟨b, h1, h2⟩ := h
  exact ⟨b, h1.carry hs fun g hg => hb g (h2 g hg) (h1.lt hg), h2⟩
theorem Mine.alloc (h : Mine w0 w sz v n xs) (o : Obj) : Mine w0 (w.alloc o) sz v n xs := h.carry (by simp) fun g _ hg => heap_alloc_old w o g hg
theorem Mine.drewN (h : Mine w0 w sz v n xs) (k : Nat) : Mine w0 (w.drewN k) sz v n xs := h
theorem Mine.drew (h : Mine w0 w sz v n xs) : Mine w0 w.drew sz v n xs := h.carry (Nat.le_refl _) fun _ _ _ => rfl
theorem Mine.below (h : Mine w0 w sz v n xs) (hb : Below w.heap.size w w') : Mine w0 w' sz v n xs := h.carry hb.size fun g _ hg => hb.block g hg
theorem Mine.row (h : Mine w0 w sz v n xs) : ∃ A c, v = .slice A n c ∧ n ≤ c ∧ c ≤ maxLen ∧ Row w A (n * sz) fun j => xs.getD j (.bool false) := by
  obtain ⟨b, h1, _⟩ := h
  exact h1.row
theorem Mine.of_ownsRow {e : TypeId} (h : w.ownsRow w0.heap.size e sz v n xs) : Mine w0 w sz v n xs := by
  obtain ⟨b, h1, h2⟩ := Own.of_ownsRow h
  refine ⟨b, h1, fun g hg => ?_⟩
  rcases h2 with h2 | ⟨g', h3, h4⟩
  · rw [h2] at hg; cases hg
  · rw [h3] at hg; cases hg; exact h4
theorem Mine.len (h : Mine w0 w sz v n xs) : xs.length = n * sz := by
  obtain ⟨b, h1, _⟩ := h
  exact h1.len
theorem Mine.cut {A : Option Addr} {c : Nat} (h : Mine w0 w sz (.slice A n c) n xs) {l r : Nat} (hlr : l ≤ r) (hr : r ≤ n) :
    Mine w0 w sz (.slice (if c = l then A else A.map (·.add (l * sz))) (r - l) (c - l)) (r - l) ((xs.drop (l * sz)).take ((r - l) * sz)) := by
  obtain ⟨b, h1, h2⟩ := h
  obtain ⟨b', h3, h4⟩ := h1.cut hlr hr
  refine ⟨b', h3, fun g hg => ?_⟩
  rcases h4 with h4 | h4
  · exact h2 g (h4 ▸ hg)
  · rw [h4] at hg; cases hg
theorem Mine.fresh {g c : Nat} (hB : ∃ t cs, w.heap[g]? = some (.cells cs t (0, 0)) ∧ cs.size = c * sz ∧ ∀ j, j < n * sz → cs[j]? = xs[j]?) (hx : xs.length = n * sz) (hn : n ≤ c) (hc : c ≤ maxLen) (hg : w0.heap.size ≤ g) :
    Mine w0 w sz (.slice (some ⟨g, 0, none⟩) n c) n xs := by
  obtain ⟨t, cs, h1, h2, h3⟩ := hB
  refine ⟨some g, ⟨hx, _, c, rfl, hn, hc, .inr ⟨g, 0, rfl, rfl, (Array.getElem?_eq_some_iff.1 h1).1, fun j hj => ?_, fun j hj => ?_⟩⟩, fun g' e => by cases e; exact hg⟩
  · rw [Nat.zero_add, cell_of_row w g j cs t (0, 0) h1]
    refine ⟨?_, frozen_of_row w g j cs t h1⟩
    rw [Array.getElem?_eq_getElem (by omega)]; rfl
  · rw [Nat.zero_add, cell_of_row w g j cs t (0, 0) h1]; exact h3 j hj
/-- n more elements at its end, for the walk. -/
theorem wpList_append_mine {P : Program} {ops : Array Oper} {rest : List Oper} {o : Oper} {a : Act} {Q : Exit → Act → World → Prop} (hgd : o.guard = none) (s x : Operand) (t tx : TypeId)
    (ho : o.op = .call { callee := .builtin .append, args := #[s, x], argTypes := #[t, tx] })
    (e : TypeId) (i : TypeInfo) (z : Value) (bytes : Nat) (ht : P.underlying t = some (.slice e)) (hi : P.info? e = some i) (hz : i.zero = some z) (hsize : i.size = sz) (hby : i.bytes = bytes) (hzs : z.cells.size = sz) (hsz : 0 < sz)
    (hv : a.eval s = v) (h : Mine w0 w sz v n xs) (hbl : Below w0.heap.size w0 w) (xv : Value) (m : Nat) (news : List Value) (hx : a.eval x = xv) (hs : Src P sz tx xv m news w) (h63 : n + m ≤ maxLen) (hbytes : (n + m) * bytes ≤ 140737488355328)
    (hK : ∀ A c w', Mine w0 w' sz (.slice A (n + m) c) (n + m) (xs ++ news) → Below w0.heap.size w0 w' → wpList P ops Q rest (a.put o.dst (.slice A (n + m) c)) w') : wpList P ops Q (o :: rest) a w := by
  obtain ⟨b, h1, h2⟩ := h
  refine wpList_append_own2 hgd s x t tx ho e i z bytes ht hi hz hsize hby hzs hsz hv h1 xv m news hx hs h63 hbytes fun A c w' b' hown hg hb => ?_
  refine hK A c w' ⟨b', hown, fun g hg' => ?_⟩ (below_grown hbl hg h2)
  rcases hb with hb | hb
  · exact h2 g (hb ▸ hg')
  · rw [hb] at hg'; cases hg'; exact hbl.size
theorem step_append_mine {P : Program} {ops : Array Oper} {o : Oper} {a : Act} {K : Act → World → Prop} {Q : Exit → Act → World → Prop} {E : Prop} (hgd : o.guard = none) (s x : Operand) (t tx : TypeId)
    (ho : o.op = .call { callee := .builtin .append, args := #[s, x], argTypes := #[t, tx] })
    (e : TypeId) (i : TypeInfo) (z : Value) (bytes : Nat) (ht : P.underlying t = some (.slice e)) (hi : P.info? e = some i) (hz : i.zero = some z) (hsize : i.size = sz) (hby : i.bytes = bytes) (hzs : z.cells.size = sz) (hsz : 0 < sz)
    (hv : a.eval s = v) (h : Mine w0 w sz v n xs) (hbl : Below w0.heap.size w0 w) (xv : Value) (m : Nat) (news : List Value) (hx : a.eval x = xv) (hs : Src P sz tx xv m news w) (h63 : n + m ≤ maxLen) (hbytes : (n + m) * bytes ≤ 140737488355328)
    (hK : ∀ A c w', Mine w0 w' sz (.slice A (n + m) c) (n + m) (xs ++ news) → Below w0.heap.size w0 w' → K (a.put o.dst (.slice A (n + m) c)) w') :
    if Region.wanted o (yielded ops a.tmps) = true then Oper.wp P o a w K Q else E := by
  have hw : Region.wanted o (yielded ops a.tmps) = true := by simp [Region.wanted, hgd]
  rw [if_pos hw]
  obtain ⟨b, h1, h2⟩ := h
  obtain ⟨v', w', b', hrun, h3, h4, h5⟩ := run_append_own2 (P := P) h1 t tx o.type e i z bytes ht hi hz hsize hby hzs hsz xv m news hs h63 hbytes
  obtain ⟨hl, A, c, rfl, hrest⟩ := h3
  unfold Oper.wp execOp
  simp only [ho, resolve, invoke, builtin, Sem.run_bind, Sem.run_pure, Result.andThen_ok, List.map_toArray, List.map_cons, List.map_nil, hv, hx, hrun]
  refine hK _ _ _ ⟨b', ⟨hl, A, c, rfl, hrest⟩, fun g hg' => ?_⟩ (below_grown hbl h4 h2)
  rcases h5 with hb | hb
  · exact h2 g (hb ▸ hg')
  · rw [hb] at hg'; cases hg'; exact hbl.size
/-- What has just been built, as a source. -/
theorem src_new {P : Program} {tx e : TypeId} (ht : P.underlying tx = some (.slice e)) (w : World) (t : TypeId) (news : List Value) (n c : Nat) (hn : news.length = n * sz) (h1 : ∀ u ∈ news, u.oneCell' = true) :
    Src P sz tx (.slice (some ⟨w.heap.size, 0, none⟩) n c) n news (w.alloc (.cells news.toArray t)) := by
  refine Src.ofSlice _ ht ⟨w.heap.size, 0, none⟩ n c news hn (fun j u hu => ?_) h1
  have hh := heap_alloc_new w (.cells news.toArray t)
  rw [← hu, show (⟨w.heap.size, 0, none⟩ : Addr).add j = ⟨w.heap.size, j, none⟩ from by simp [Addr.add_lit], cell_of_row _ w.heap.size j _ t (0, 0) hh]
  simp
theorem src_new_drew {P : Program} {tx e : TypeId} (ht : P.underlying tx = some (.slice e)) (w : World) (t : TypeId) (news : List Value) (n c : Nat) (hn : news.length = n * sz) (h1 : ∀ u ∈ news, u.oneCell' = true) :
    Src P sz tx (.slice (some ⟨w.heap.size, 0, none⟩) n c) n news (w.alloc (.cells news.toArray t)).drew := by
  refine Src.ofSlice _ ht ⟨w.heap.size, 0, none⟩ n c news hn (fun j u hu => ?_) h1
  have hh : (w.alloc (.cells news.toArray t)).drew.heap[w.heap.size]? = _ := heap_alloc_new w (.cells news.toArray t)
  rw [← hu, show (⟨w.heap.size, 0, none⟩ : Addr).add j = ⟨w.heap.size, j, none⟩ from by simp [Addr.add_lit], cell_of_row _ w.heap.size j _ t (0, 0) hh]
  simp
end
end Go.Proofs.Ytilbhnloelgpdaa
