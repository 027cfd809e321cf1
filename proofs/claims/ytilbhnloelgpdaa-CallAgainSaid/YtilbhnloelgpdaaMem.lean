/- Words for memory: cells that read from an address on, appending them to a row of the call's own, and worlds below which nothing has turned. -/
import Derived.Below
import Derived.Laws.OwnMore
import Derived.Maps.AppendAt
import Derived.Deep.AppendLies
import Derived.Deep.Draws
import Derived.Deep.Slices
import Derived.RegionTactic
import Derived.OwnWalk
import Derived.WideShapes
import Derived.Laws.Rows
import Derived.Laws.Cover2
import Derived.ChangeSame
namespace Go.Proofs.Ytilbhnloelgpdaa
open Go.RowKit

theorem below_self (w : World) (n : Nat) : Below w.heap.size w (w.drewN n) := ⟨rfl, rfl, rfl, Nat.le_refl _, fun _ _ => rfl⟩
theorem below_next {w w1 w2 : World} (h1 : Below w.heap.size w w1) (h2 : Below w1.heap.size w1 w2) : Below w.heap.size w w2 := h1.trans (h2.mono h1.size)
theorem below_draw {w w1 : World} (h1 : Below w.heap.size w w1) (n : Nat) : Below w.heap.size w (w1.drewN n) := below_next h1 (below_self _ _)
theorem below_cell {w w1 : World} (hb : Below w.heap.size w w1) {b o : Nat} (h : b < w.heap.size) : w1.cell? ⟨b, o, none⟩ = w.cell? ⟨b, o, none⟩ := hb.cell (p := ⟨b, o, none⟩) h

/-- m cells read from A on. -/
def Row (w : World) (A : Option Addr) (m : Nat) (f : Nat → Value) : Prop :=
  m = 0 ∨ ∃ b off, A = some ⟨b, off, none⟩ ∧ b < w.heap.size ∧ ∀ j, j < m → w.cell? ⟨b, off + j, none⟩ = some (f j)

section
variable {w w' : World} {A : Option Addr} {m : Nat} {f : Nat → Value}
theorem Row.at_ {k : Nat} (h : Row w A m f) (hk : k < m) : ∃ b off, A = some ⟨b, off, none⟩ ∧ b < w.heap.size ∧ w.cell? ⟨b, off + k, none⟩ = some (f k) := by
  rcases h with h | ⟨b, off, h1, h2, h3⟩
  · omega
  · exact ⟨b, off, h1, h2, h3 k hk⟩
theorem Row.below (h : Row w A m f) (hb : Below w.heap.size w w') : Row w' A m f := by
  rcases h with h | ⟨b, off, h1, h2, h3⟩
  · exact .inl h
  · exact .inr ⟨b, off, h1, Nat.lt_of_lt_of_le h2 hb.size, fun j hj => (below_cell hb h2).trans (h3 j hj)⟩
theorem Row.drewN (h : Row w A m f) (n : Nat) : Row (w.drewN n) A m f := h
theorem Row.of_eq {g : Nat → Value} (h : Row w A m f) (e : ∀ j, j < m → f j = g j) : Row w A m g := by
  rcases h with h | ⟨b, off, h1, h2, h3⟩
  · exact .inl h
  · exact .inr ⟨b, off, h1, h2, fun j hj => by rw [h3 j hj, e j hj]⟩
theorem Row.of_cells {a : Addr} (h : ∀ j, j < m → w.cell? (a.add j) = some (f j)) : Row w (some a) m f := by
  rcases Nat.eq_zero_or_pos m with h0 | h0
  · exact .inl h0
  have hs : a.spot = none := by
    have := h 0 h0
    rw [show a.add 0 = a from rfl] at this
    unfold World.cell? at this
    split at this
    · split at this
      · cases this
      · rename_i hsp; simpa using hsp
    · cases this
  obtain ⟨b, off, sp⟩ := a
  cases hs
  refine .inr ⟨b, off, rfl, World.block_lt_of_cell? _ _ (h 0 h0), fun j hj => ?_⟩
  rw [← h j hj]
  congr 1
  unfold Addr.add
  split
  · rename_i e; subst e; rfl
  · rfl
theorem Row.nil (h : m = 0) : Row w A m f := .inl h
end

/-- A row of the call's own, as a slice that reads. -/
theorem own_form {w : World} {base : Nat} {e : TypeId} {size n : Nat} {v : Value} {xs : List Value} (h : w.ownsRow base e size v n xs) :
    ∃ A c, v = .slice A n c ∧ n ≤ c ∧ Row w A (n * size) (fun j => xs.getD j (.bool false)) := by
  rcases h.2 with ⟨rfl, rfl⟩ | ⟨g, cap, cur, rfl, _, hh, hnc, _⟩
  · exact ⟨none, 0, rfl, Nat.le_refl _, .inl (by omega)⟩
  · refine ⟨some ⟨g, 0, none⟩, cap, rfl, hnc, .of_cells fun j hj => ?_⟩
    have hl : j < xs.length := by rw [h.1]; exact hj
    rw [h.cells (g := g) rfl j xs[j] (List.getElem?_eq_getElem hl), List.getD_eq_getElem?_getD, List.getElem?_eq_getElem hl]; rfl

section
variable {P : Program} (w : World)
/-- 'append(out, xs...)': out a row of the call's own, xs whatever slice that reads. -/
theorem run_append_row (base : Nat) (t ty e : TypeId) (i : TypeInfo) (z : Value) (size bytes : Nat) (ht : P.underlying t = some (.slice e)) (hi : P.info? e = some i) (hz : i.zero = some z)
    (hsize : i.size = size) (hby : i.bytes = bytes) (hzs : z.cells.size = size) (hsz : 0 < size)
    (v : Value) (n : Nat) (xs : List Value) (hown : w.ownsRow base e size v n xs) (A : Option Addr) (m c : Nat) (f : Nat → Value) (hr : Row w A (m * size) f) (h1 : ∀ j, j < m * size → (f j).oneCell' = true)
    (h63 : n + m ≤ maxLen) (hbytes : (n + m) * bytes ≤ 140737488355328) (hbase : base ≤ w.heap.size) :
    ∃ v' w', (Builtin.append_ #[t, t] ty #[v, .slice A m c]).run P w = .ok v' w' ∧ w'.ownsRow base e size v' (n + m) (xs ++ (List.range (m * size)).map f) ∧ w.grownBy w' v.ownBlock ∧
      (v'.ownBlock = v.ownBlock ∨ v'.ownBlock = some w.heap.size) := by
  rcases hr with h0 | ⟨b, off, rfl, hb, hc⟩
  · have hm : m = 0 := by
      rcases Nat.eq_zero_or_pos m with h | h
      · exact h
      · have := Nat.mul_pos h hsz; omega
    subst hm
    rw [Nat.zero_mul, List.range_zero, List.map_nil]
    cases A with
    | none =>
      refine ⟨v, w, ?_, by simpa using hown, World.grownBy.refl w _, .inl rfl⟩
      rcases hown.2 with ⟨rfl, rfl⟩ | ⟨g, cap, cur, rfl, _, _, hnc, _⟩
      · simp [Builtin.append_, run_underlying ht, sizeOf, typeInfo, hi, Builtin.lenOf, Builtin.firstCells]
      · simp [Builtin.append_, run_underlying ht, sizeOf, typeInfo, hi, Builtin.lenOf, Builtin.firstCells, hnc, storeCells]
    | some a =>
      obtain ⟨v', w', hrun, h2, h3, _, h5⟩ := run_append_own_at (P := P) w base t ty e i z size bytes ht hi hz hsize hby hzs hsz v n xs hown a 0 c [] (by simp) (by simp) (by simp) h63 hbytes hbase
      exact ⟨v', w', hrun, h2, h3, h5⟩
  · have hcells : ∀ j u, ((List.range (m * size)).map f)[j]? = some u → w.cell? ((⟨b, off, none⟩ : Addr).add j) = some u := by
      intro j u hu
      have hj : j < m * size := by
        have := (List.getElem?_eq_some_iff.1 hu).1; simpa using this
      rw [List.getElem?_map, List.getElem?_range hj] at hu
      simp only [Option.map_some, Option.some.injEq] at hu
      rw [← hu, ← hc j hj]
      congr 1
      unfold Addr.add
      split
      · rename_i e; subst e; rfl
      · rfl
    have hone : ∀ u ∈ (List.range (m * size)).map f, u.oneCell' = true := by
      intro u hu
      obtain ⟨j, hj, rfl⟩ := List.mem_map.1 hu
      exact h1 j (List.mem_range.1 hj)
    obtain ⟨v', w', hrun, h2, h3, _, h5⟩ := run_append_own_at (P := P) w base t ty e i z size bytes ht hi hz hsize hby hzs hsz v n xs hown ⟨b, off, none⟩ m c ((List.range (m * size)).map f) (by simp) hcells hone h63 hbytes hbase
    exact ⟨v', w', hrun, h2, h3, h5⟩

theorem wp_append_row {o : Oper} {a : Act} {K : Act → World → Prop} {Q : Exit → Act → World → Prop} (s x : Operand) (t : TypeId)
    (ho : o.op = .call { callee := .builtin .append, args := #[s, x], argTypes := #[t, t] })
    (base : Nat) (e : TypeId) (i : TypeInfo) (z : Value) (size bytes : Nat) (ht : P.underlying t = some (.slice e)) (hi : P.info? e = some i) (hz : i.zero = some z)
    (hsize : i.size = size) (hby : i.bytes = bytes) (hzs : z.cells.size = size) (hsz : 0 < size)
    (v : Value) (n : Nat) (xs : List Value) (hs : a.eval s = v) (hown : w.ownsRow base e size v n xs)
    (A : Option Addr) (m c : Nat) (f : Nat → Value) (hx : a.eval x = .slice A m c) (hr : Row w A (m * size) f) (h1 : ∀ j, j < m * size → (f j).oneCell' = true)
    (h63 : n + m ≤ maxLen) (hbytes : (n + m) * bytes ≤ 140737488355328) (hbase : base ≤ w.heap.size)
    (h : ∀ v' w', w'.ownsRow base e size v' (n + m) (xs ++ (List.range (m * size)).map f) → w.grownBy w' v.ownBlock → (v'.ownBlock = v.ownBlock ∨ v'.ownBlock = some w.heap.size) → K (a.put o.dst v') w') : o.wp P a w K Q := by
  obtain ⟨v', w', hrun, h2, h3, h4⟩ := run_append_row (P := P) w base t o.type e i z size bytes ht hi hz hsize hby hzs hsz v n xs hown A m c f hr h1 h63 hbytes hbase
  unfold Oper.wp execOp
  simp only [ho, resolve, invoke, builtin, Sem.run_bind, Sem.run_pure, Result.andThen_ok, List.map_toArray, List.map_cons, List.map_nil, hs, hx, hrun]
  exact h v' w' h2 h3 h4

theorem wpList_append_row {ops : Array Oper} {rest : List Oper} {o : Oper} {a : Act} {Q : Exit → Act → World → Prop} (hgd : o.guard = none) (s x : Operand) (t : TypeId)
    (ho : o.op = .call { callee := .builtin .append, args := #[s, x], argTypes := #[t, t] })
    (base : Nat) (e : TypeId) (i : TypeInfo) (z : Value) (size bytes : Nat) (ht : P.underlying t = some (.slice e)) (hi : P.info? e = some i) (hz : i.zero = some z)
    (hsize : i.size = size) (hby : i.bytes = bytes) (hzs : z.cells.size = size) (hsz : 0 < size)
    (v : Value) (n : Nat) (xs : List Value) (hs : a.eval s = v) (hown : w.ownsRow base e size v n xs)
    (A : Option Addr) (m c : Nat) (f : Nat → Value) (hx : a.eval x = .slice A m c) (hr : Row w A (m * size) f) (h1 : ∀ j, j < m * size → (f j).oneCell' = true)
    (h63 : n + m ≤ maxLen) (hbytes : (n + m) * bytes ≤ 140737488355328) (hbase : base ≤ w.heap.size)
    (h : ∀ v' w', w'.ownsRow base e size v' (n + m) (xs ++ (List.range (m * size)).map f) → w.grownBy w' v.ownBlock → (v'.ownBlock = v.ownBlock ∨ v'.ownBlock = some w.heap.size) → wpList P ops Q rest (a.put o.dst v') w') : wpList P ops Q (o :: rest) a w :=
  wpList_plain hgd fun _ hK => wp_append_row w s x t ho base e i z size bytes ht hi hz hsize hby hzs hsz v n xs hs hown A m c f hx hr h1 h63 hbytes hbase fun v' w' h2 h3 h4 => hK _ _ (h v' w' h2 h3 h4)
end

/-- What growing leaves below. -/
theorem below_grown {w w1 w' : World} {row : Option Nat} (h1 : Below w.heap.size w w1) (hg : w1.grownBy w' row) (hr : ∀ k, row = some k → w.heap.size ≤ k) : Below w.heap.size w w' :=
  h1.grown hg h1.size hr

section
variable {H : Type} {enc : TypeId × Value → H} {P : Program}
/-- A slice of floats that came in. -/
theorem open_floats {W : World} {base : Nat} {spare : Nat → Bool} {held : Bool} {t e : TypeId} (ht : P.underlying t = some (.slice e)) (he : P.underlying e = some (.float .f64)) (hc : P.cellsOf e = 1) {a : Option Addr} {len cap : Nat} {d : DataW H} {ps : List MemPlace}
    (h : DataW.Trod enc P W base spare held t (.slice a len cap) d ps) : ∃ Z : Nat → Nat, (∀ j, j < len → Z j < 18446744073709551616) ∧ len ≤ cap ∧ cap ≤ maxLen ∧ Row W a len (fun j => .float .f64 (Z j)) := by
  obtain ⟨fuel, hf⟩ := h
  rcases Deep.open_slice1 ht hc hf with ⟨hcs, _⟩ | ⟨x, l, c, m, n, V, D, Pl, hcs, _, hl, hm, hmm, _, hi⟩
  · simp [Value.cells] at hcs
    obtain ⟨rfl, rfl, rfl⟩ := hcs
    exact ⟨fun _ => 0, fun _ _ => by omega, Nat.le_refl _, by unfold maxLen; omega, .inl rfl⟩
  · simp [Value.cells] at hcs
    obtain ⟨rfl, rfl, rfl⟩ := hcs
    have hlm : len ≤ m := by rw [hmm]; split <;> omega
    have hb : ∀ j, j < len → ∃ b, V j = .float .f64 b ∧ b < 18446744073709551616 := by
      intro j hj
      have hd := (hi j (by omega)).2
      generalize V j = v at hd
      cases n with
      | zero => simp [DataW.trod] at hd
      | succ n =>
        cases v <;> simp [DataW.trod, he] at hd
        rename_i k b
        obtain ⟨⟨rfl, hw⟩, _⟩ := hd
        have e : (Lit.float .f64 b).wf = decide (b < 2 ^ 64) := rfl
        rw [e] at hw
        exact ⟨b, rfl, of_decide_eq_true hw⟩
    refine ⟨fun j => match V j with | .float _ b => b | _ => 0, fun j hj => ?_, hl, hm, (Row.of_cells (fun j hj => (hi j (by omega)).1)).of_eq fun j hj => ?_⟩
    · obtain ⟨b, h1, h2⟩ := hb j hj
      dsimp only; rw [h1]; exact h2
    · obtain ⟨b, h1, h2⟩ := hb j hj
      dsimp only; rw [h1]
end
end Go.Proofs.Ytilbhnloelgpdaa
