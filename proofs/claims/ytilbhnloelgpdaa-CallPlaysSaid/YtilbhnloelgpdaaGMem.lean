/- Words for memory: cells that read from an address on, appending them to a row of the call's own, and worlds below which nothing has turned. A region that draws its order, run by an invariant over what has been done: each operation is met once. A block that is known whole: what of it stays over draws, new blocks, stores elsewhere and into it. A slice whose cells are the walk's to write, from whatever offset on: reading, cutting, appending to it. An append leaves the cells that were there as they were; at a step of a region that draws. -/
import Derived.Below
import Derived.Laws.OwnMore
import Derived.Maps.AppendAt
import Derived.Deep.AppendLies
import Derived.Deep.Draws
import Derived.Deep.Slices
import Derived.RegionTactic
import Derived.OwnWalk
import Derived.WideShapes
import Derived.Laws.Rows
import Derived.Laws.Cover2
import Derived.ChangeSame
import Derived.Laws.Tables
import Derived.Deep.WholeRow
import Derived.Deep.AppendSrc
import Derived.Laws.IdiomCopy
import Derived.Deep.Upon
namespace Go.Proofs.Ytilbhnloelgpdaa
open Go.RowKit

theorem below_self (w : World) (n : Nat) : Below w.heap.size w (w.drewN n) := ⟨rfl, rfl, rfl, Nat.le_refl _, fun _ _ => rfl⟩
theorem below_next {w w1 w2 : World} (h1 : Below w.heap.size w w1) (h2 : Below w1.heap.size w1 w2) : Below w.heap.size w w2 := h1.trans (h2.mono h1.size)
theorem below_draw {w w1 : World} (h1 : Below w.heap.size w w1) (n : Nat) : Below w.heap.size w (w1.drewN n) := below_next h1 (below_self _ _)
theorem below_cell {w w1 : World} (hb : Below w.heap.size w w1) {b o : Nat} (h : b < w.heap.size) : w1.cell? ⟨b, o, none⟩ = w.cell? ⟨b, o, none⟩ := hb.cell (p := ⟨b, o, none⟩) h

/-- m cells read from A on. -/
def Row (w : World) (A : Option Addr) (m : Nat) (f : Nat → Value) : Prop :=
  m = 0 ∨ ∃ b off, A = some ⟨b, off, none⟩ ∧ b < w.heap.size ∧ ∀ j, j < m → w.cell? ⟨b, off + j, none⟩ = some (f j)

section
variable {w w' : World} {A : Option Addr} {m : Nat} {f : Nat → Value}
theorem Row.at_ {k : Nat} (h : Row w A m f) (hk : k < m) : ∃ b off, A = some ⟨b, off, none⟩ ∧ b < w.heap.size ∧ w.cell? ⟨b, off + k, none⟩ = some (f k) := by
  rcases h with h | ⟨b, off, h1, h2, h3⟩
  · omega
  · exact ⟨b, off, h1, h2, h3 k hk⟩
theorem Row.below (h : Row w A m f) (hb : Below w.heap.size w w') : Row w' A m f := by
  rcases h with h | ⟨b, off, h1, h2, h3⟩
  · exact .inl h
  · exact .inr ⟨b, off, h1, Nat.lt_of_lt_of_le h2 hb.size, fun j hj => (below_cell hb h2).trans (h3 j hj)⟩
theorem Row.drewN (h : Row w A m f) (n : Nat) : Row (w.drewN n) A m f := h
theorem Row.of_eq {g : Nat → Value} (h : Row w A m f) (e : ∀ j, j < m → f j = g j) : Row w A m g := by
  rcases h with h | ⟨b, off, h1, h2, h3⟩
  · exact .inl h
  · exact .inr ⟨b, off, h1, h2, fun j hj => by rw [h3 j hj, e j hj]⟩
theorem Row.of_cells {a : Addr} (h : ∀ j, j < m → w.cell? (a.add j) = some (f j)) : Row w (some a) m f := by
  rcases Nat.eq_zero_or_pos m with h0 | h0
  · exact .inl h0
  have hs : a.spot = none := by
    have := h 0 h0
    rw [show a.add 0 = a from rfl] at this
    unfold World.cell? at this
    split at this
    · split at this
      · cases this
      · rename_i hsp; simpa using hsp
    · cases this
  obtain ⟨b, off, sp⟩ := a
  cases hs
  refine .inr ⟨b, off, rfl, World.block_lt_of_cell? _ _ (h 0 h0), fun j hj => ?_⟩
  rw [← h j hj]
  congr 1
  unfold Addr.add
  split
  · rename_i e; subst e; rfl
  · rfl
theorem Row.nil (h : m = 0) : Row w A m f := .inl h
end

/-- A row of the call's own, as a slice that reads. -/
theorem own_form {w : World} {base : Nat} {e : TypeId} {size n : Nat} {v : Value} {xs : List Value} (h : w.ownsRow base e size v n xs) :
    ∃ A c, v = .slice A n c ∧ n ≤ c ∧ Row w A (n * size) (fun j => xs.getD j (.bool false)) := by
  rcases h.2 with ⟨rfl, rfl⟩ | ⟨g, cap, cur, rfl, _, hh, hnc, _⟩
  · exact ⟨none, 0, rfl, Nat.le_refl _, .inl (by omega)⟩
  · refine ⟨some ⟨g, 0, none⟩, cap, rfl, hnc, .of_cells fun j hj => ?_⟩
    have hl : j < xs.length := by rw [h.1]; exact hj
    rw [h.cells (g := g) rfl j xs[j] (List.getElem?_eq_getElem hl), List.getD_eq_getElem?_getD, List.getElem?_eq_getElem hl]; rfl

section
variable {P : Program} (w : World)
/-- 'append(out, xs...)': out a row of the call's own, xs whatever slice that reads. -/
theorem run_append_row (base : Nat) (t ty e : TypeId) (i : TypeInfo) (z : Value) (size bytes : Nat) (ht : P.underlying t = some (.slice e)) (hi : P.info? e = some i) (hz : i.zero = some z)
    (hsize : i.size = size) (hby : i.bytes = bytes) (hzs : z.cells.size = size) (hsz : 0 < size)
    (v : Value) (n : Nat) (xs : List Value) (hown : w.ownsRow base e size v n xs) (A : Option Addr) (m c : Nat) (f : Nat → Value) (hr : Row w A (m * size) f) (h1 : ∀ j, j < m * size → (f j).oneCell' = true)
    (h63 : n + m ≤ maxLen) (hbytes : (n + m) * bytes ≤ 140737488355328) (hbase : base ≤ w.heap.size) :
    ∃ v' w', (Builtin.append_ #[t, t] ty #[v, .slice A m c]).run P w = .ok v' w' ∧ w'.ownsRow base e size v' (n + m) (xs ++ (List.range (m * size)).map f) ∧ w.grownBy w' v.ownBlock ∧
      (v'.ownBlock = v.ownBlock ∨ v'.ownBlock = some w.heap.size) := by
  rcases hr with h0 | ⟨b, off, rfl, hb, hc⟩
  · have hm : m = 0 := by
      rcases Nat.eq_zero_or_pos m with h | h
      · exact h
      · have := Nat.mul_pos h hsz; omega
    subst hm
    rw [Nat.zero_mul, List.range_zero, List.map_nil]
    cases A with
    | none =>
      refine ⟨v, w, ?_, by simpa using hown, World.grownBy.refl w _, .inl rfl⟩
      rcases hown.2 with ⟨rfl, rfl⟩ | ⟨g, cap, cur, rfl, _, _, hnc, _⟩
      · simp [Builtin.append_, run_underlying ht, sizeOf, typeInfo, hi, Builtin.lenOf, Builtin.firstCells]
      · simp [Builtin.append_, run_underlying ht, sizeOf, typeInfo, hi, Builtin.lenOf, Builtin.firstCells, hnc, storeCells]
    | some a =>
      obtain ⟨v', w', hrun, h2, h3, _, h5⟩ := run_append_own_at (P := P) w base t ty e i z size bytes ht hi hz hsize hby hzs hsz v n xs hown a 0 c [] (by simp) (by simp) (by simp) h63 hbytes hbase
      exact ⟨v', w', hrun, h2, h3, h5⟩
  · have hcells : ∀ j u, ((List.range (m * size)).map f)[j]? = some u → w.cell? ((⟨b, off, none⟩ : Addr).add j) = some u := by
      intro j u hu
      have hj : j < m * size := by
        have := (List.getElem?_eq_some_iff.1 hu).1; simpa using this
      rw [List.getElem?_map, List.getElem?_range hj] at hu
      simp only [Option.map_some, Option.some.injEq] at hu
      rw [← hu, ← hc j hj]
      congr 1
      unfold Addr.add
      split
      · rename_i e; subst e; rfl
      · rfl
    have hone : ∀ u ∈ (List.range (m * size)).map f, u.oneCell' = true := by
      intro u hu
      obtain ⟨j, hj, rfl⟩ := List.mem_map.1 hu
      exact h1 j (List.mem_range.1 hj)
    obtain ⟨v', w', hrun, h2, h3, _, h5⟩ := run_append_own_at (P := P) w base t ty e i z size bytes ht hi hz hsize hby hzs hsz v n xs hown ⟨b, off, none⟩ m c ((List.range (m * size)).map f) (by simp) hcells hone h63 hbytes hbase
    exact ⟨v', w', hrun, h2, h3, h5⟩

theorem wp_append_row {o : Oper} {a : Act} {K : Act → World → Prop} {Q : Exit → Act → World → Prop} (s x : Operand) (t : TypeId)
    (ho : o.op = .call { callee := .builtin .append, args := #[s, x], argTypes := #[t, t] })
    (base : Nat) (e : TypeId) (i : TypeInfo) (z : Value) (size bytes : Nat) (ht : P.underlying t = some (.slice e)) (hi : P.info? e = some i) (hz : i.zero = some z)
    (hsize : i.size = size) (hby : i.bytes = bytes) (hzs : z.cells.size = size) (hsz : 0 < size)
    (v : Value) (n : Nat) (xs : List Value) (hs : a.eval s = v) (hown : w.ownsRow base e size v n xs)
    (A : Option Addr) (m c : Nat) (f : Nat → Value) (hx : a.eval x = .slice A m c) (hr : Row w A (m * size) f) (h1 : ∀ j, j < m * size → (f j).oneCell' = true)
    (h63 : n + m ≤ maxLen) (hbytes : (n + m) * bytes ≤ 140737488355328) (hbase : base ≤ w.heap.size)
    (h : ∀ v' w', w'.ownsRow base e size v' (n + m) (xs ++ (List.range (m * size)).map f) → w.grownBy w' v.ownBlock → (v'.ownBlock = v.ownBlock ∨ v'.ownBlock = some w.heap.size) → K (a.put o.dst v') w') : o.wp P a w K Q := by
  obtain ⟨v', w', hrun, h2, h3, h4⟩ := run_append_row (P := P) w base t o.type e i z size bytes ht hi hz hsize hby hzs hsz v n xs hown A m c f hr h1 h63 hbytes hbase
  unfold Oper.wp execOp
  simp only [ho, resolve, invoke, builtin, Sem.run_bind, Sem.run_pure, Result.andThen_ok, List.map_toArray, List.map_cons, List.map_nil, hs, hx, hrun]
  exact h v' w' h2 h3 h4

theorem wpList_append_row {ops : Array Oper} {rest : List Oper} {o : Oper} {a : Act} {Q : Exit → Act → World → Prop} (hgd : o.guard = none) (s x : Operand) (t : TypeId)
    (ho : o.op = .call { callee := .builtin .append, args := #[s, x], argTypes := #[t, t] })
    (base : Nat) (e : TypeId) (i : TypeInfo) (z : Value) (size bytes : Nat) (ht : P.underlying t = some (.slice e)) (hi : P.info? e = some i) (hz : i.zero = some z)
    (hsize : i.size = size) (hby : i.bytes = bytes) (hzs : z.cells.size = size) (hsz : 0 < size)
    (v : Value) (n : Nat) (xs : List Value) (hs : a.eval s = v) (hown : w.ownsRow base e size v n xs)
    (A : Option Addr) (m c : Nat) (f : Nat → Value) (hx : a.eval x = .slice A m c) (hr : Row w A (m * size) f) (h1 : ∀ j, j < m * size → (f j).oneCell' = true)
    (h63 : n + m ≤ maxLen) (hbytes : (n + m) * bytes ≤ 140737488355328) (hbase : base ≤ w.heap.size)
    (h : ∀ v' w', w'.ownsRow base e size v' (n + m) (xs ++ (List.range (m * size)).map f) → w.grownBy w' v.ownBlock → (v'.ownBlock = v.ownBlock ∨ v'.ownBlock = some w.heap.size) → wpList P ops Q rest (a.put o.dst v') w') : wpList P ops Q (o :: rest) a w :=
  wpList_plain hgd fun _ hK => wp_append_row w s x t ho base e i z size bytes ht hi hz hsize hby hzs hsz v n xs hs hown A m c f hx hr h1 h63 hbytes hbase fun v' w' h2 h3 h4 => hK _ _ (h v' w' h2 h3 h4)
end

/-- What growing leaves below. -/
theorem below_grown {w w1 w' : World} {row : Option Nat} (h1 : Below w.heap.size w w1) (hg : w1.grownBy w' row) (hr : ∀ k, row = some k → w.heap.size ≤ k) : Below w.heap.size w w' :=
  h1.grown hg h1.size hr

section
variable {H : Type} {enc : TypeId × Value → H} {P : Program}
/-- A slice of floats that came in. -/
theorem open_floats {W : World} {base : Nat} {spare : Nat → Bool} {held : Bool} {t e : TypeId} (ht : P.underlying t = some (.slice e)) (he : P.underlying e = some (.float .f64)) (hc : P.cellsOf e = 1) {a : Option Addr} {len cap : Nat} {d : DataW H} {ps : List MemPlace}
    (h : DataW.Trod enc P W base spare held t (.slice a len cap) d ps) : ∃ Z : Nat → Nat, (∀ j, j < len → Z j < 18446744073709551616) ∧ len ≤ cap ∧ cap ≤ maxLen ∧ Row W a len (fun j => .float .f64 (Z j)) := by
  obtain ⟨fuel, hf⟩ := h
  rcases Deep.open_slice1 ht hc hf with ⟨hcs, _⟩ | ⟨x, l, c, m, n, V, D, Pl, hcs, _, hl, hm, hmm, _, hi⟩
  · simp [Value.cells] at hcs
    obtain ⟨rfl, rfl, rfl⟩ := hcs
    exact ⟨fun _ => 0, fun _ _ => by omega, Nat.le_refl _, by unfold maxLen; omega, .inl rfl⟩
  · simp [Value.cells] at hcs
    obtain ⟨rfl, rfl, rfl⟩ := hcs
    have hlm : len ≤ m := by rw [hmm]; split <;> omega
    have hb : ∀ j, j < len → ∃ b, V j = .float .f64 b ∧ b < 18446744073709551616 := by
      intro j hj
      have hd := (hi j (by omega)).2
      generalize V j = v at hd
      cases n with
      | zero => simp [DataW.trod] at hd
      | succ n =>
        cases v <;> simp [DataW.trod, he] at hd
        rename_i k b
        obtain ⟨⟨rfl, hw⟩, _⟩ := hd
        have e : (Lit.float .f64 b).wf = decide (b < 2 ^ 64) := rfl
        rw [e] at hw
        exact ⟨b, rfl, of_decide_eq_true hw⟩
    refine ⟨fun j => match V j with | .float _ b => b | _ => 0, fun j hj => ?_, hl, hm, (Row.of_cells (fun j hj => (hi j (by omega)).1)).of_eq fun j hj => ?_⟩
    · obtain ⟨b, h1, h2⟩ := hb j hj
      dsimp only; rw [h1]; exact h2
    · obtain ⟨b, h1, h2⟩ := hb j hj
      dsimp only; rw [h1]
end
end Go.Proofs.Ytilbhnloelgpdaa
namespace Go.Proofs.Ytilbhnloelgpdaa
open Go

section
variable {P : Program} {ops : Array Oper} {Q : Exit → Act → World → Prop} {md : Region.Mode}
theorem count_set_lt (l : List Bool) (i : Nat) (h : l[i]? = some false) : (l.set i true).count false + 1 = l.count false := by
  induction l generalizing i with
  | nil => simp at h
  | cons x l ih =>
    cases i with
    | zero =>
      simp at h; subst h; simp
    | succ i =>
      simp at h
      have := ih i h
      rw [List.set_cons_succ, List.count_cons, List.count_cons]; omega
/-- The law: I says what holds when the operations of d are done. -/
theorem wpAny_inv (I : (Nat → Bool) → Act → World → Prop)
    (step : ∀ i o d a w, ops[i]? = some o → d i = false → (∀ e ∈ o.after, Region.binds md e = true → d e.on = true) → I d a w →
      ∀ K : Act → World → Prop, (∀ a w, I (fun j => if j = i then true else d j) a w → K a w) → if Region.wanted o (yielded ops a.tmps) = true then Oper.wp P o a w K Q else K (a.put o.dst undef) w)
    (done : ∀ d a w, (∀ i o, ops[i]? = some o → (∀ e ∈ o.after, Region.binds md e = true → d e.on = true) → d i = true) → I d a w → Q .normal a w) :
    ∀ (fuel : Nat) (listed : Array Bool) (a : Act) (w : World), listed.size = ops.size → listed.toList.count false ≤ fuel → I (fun j => listed.getD j false) a w → wpAny P md ops Q fuel listed a w := by
  have fin : ∀ (listed : Array Bool) (a : Act) (w : World), listed.size = ops.size → Region.ready md ops listed = [] → I (fun j => listed.getD j false) a w → Q .normal a w := by
    intro listed a w hs hr hI
    refine done _ a w (fun i o ho haf => ?_) hI
    have hlt : i < listed.size := by rw [hs]; exact (Array.getElem?_eq_some_iff.1 ho).1
    cases hb : listed.getD i false with
    | true => rfl
    | false =>
      exfalso
      have : i ∈ Region.ready md ops listed := by
        rw [mem_ready]
        refine ⟨?_, o, ho, haf⟩
        rw [← hb]
        simp [Array.getD, hlt]
      rw [hr] at this; cases this
  intro fuel
  induction fuel with
  | zero =>
    intro listed a w hs hc hI
    have hr : Region.ready md ops listed = [] := by
      refine List.eq_nil_iff_forall_not_mem.2 fun i hi => ?_
      obtain ⟨h1, o, ho, _⟩ := mem_ready.1 hi
      have hlt : i < listed.size := by rw [hs]; exact (Array.getElem?_eq_some_iff.1 ho).1
      have : false ∈ listed.toList := by
        rw [← h1, Array.getD, dif_pos hlt]; simp
      have := List.count_pos_iff.2 this
      omega
    exact ⟨hr, fin _ _ _ hs hr hI⟩
  | succ fuel ih =>
    intro listed a w hs hc hI
    refine ⟨fun hr => fin _ _ _ hs hr hI, fun i hi => ?_⟩
    obtain ⟨h1, o, ho, haf⟩ := mem_ready.1 hi
    have hlt : i < listed.size := by rw [hs]; exact (Array.getElem?_eq_some_iff.1 ho).1
    have h1' : listed[i]? = some false := by
      rw [Array.getElem?_eq_getElem hlt, ← h1, Array.getD, dif_pos hlt]; rfl
    refine wpOp_step ho fun K' hK => step i o _ a w ho (by simp [h1']) haf hI K' fun a' w' hI' => hK a' w' (ih _ a' w' (by simpa using hs) ?_ ?_)
    · have := count_set_lt listed.toList i (by simpa using h1')
      rw [Array.toList_setIfInBounds]; omega
    · have e : (fun j => (listed.setIfInBounds i true).getD j false) = fun j => if j = i then true else listed.getD j false := by
        funext j
        by_cases hj : j = i
        · subst hj; simp [hlt]
        · simp [hj, Ne.symm hj]
      rw [e]; exact hI'
/-- A region that draws, by the invariant. -/
theorem wp_region_inv {id : Nat} {a : Act} {w : World} (hm : P.follows .mixedOrders = true) (I : (Nat → Bool) → Act → World → Prop)
    (start : I (fun _ => false) a w.drew)
    (step : ∀ i o d a w, ops[i]? = some o → d i = false → (∀ e ∈ o.after, Region.binds .any e = true → d e.on = true) → I d a w →
      ∀ K : Act → World → Prop, (∀ a w, I (fun j => if j = i then true else d j) a w → K a w) → if Region.wanted o (yielded ops a.tmps) = true then Oper.wp P o a w K Q else K (a.put o.dst undef) w)
    (done : ∀ d a w, (∀ i o, ops[i]? = some o → (∀ e ∈ o.after, Region.binds .any e = true → d e.on = true) → d i = true) → I d a w → Q .normal a w) :
    (Code.region id ops true).wp P Q a w := by
  refine wp_region_any hm (wpAny_inv I step done _ _ _ _ (by simp) (by simp) ?_)
  have : (fun j => (Array.replicate ops.size false).getD j false) = fun _ => false := by
    funext j
    simp [Array.getD]
  rw [this]; exact start
theorem put_same (a : Act) (d : Nat) (v u : Value) : (a.put (some d) v).put (some d) u = a.put (some d) u := by simp [Act.put]
theorem put_to (a : Act) {x y : Nat} (h : x ≠ y) (v u : Value) : (a.put (some x) v).put (some y) u = (a.put (some y) u).put (some x) v :=
  Act.put_comm a v u fun d hd hy => h (by rw [Option.some.inj hd, Option.some.inj hy])
theorem put_self (a : Act) (d : Nat) : a.put (some d) (a.eval (.tmp d)) = a := by
  have : a.tmps.setIfInBounds d (a.tmps.getD d undef) = a.tmps := by
    apply Array.ext_getElem?
    intro i
    rw [Array.getElem?_setIfInBounds]
    by_cases h : d = i
    · subst h
      by_cases hlt : d < a.tmps.size
      · simp [hlt, Array.getD]
      · simp [hlt]
    · simp [h]
  show ({ a with tmps := _ } : Act) = a
  cases a
  simpa [Act.eval] using this
theorem eval_ne (a : Act) {d j : Nat} (h : d ≠ j) (v : Value) : (a.put (some d) v).eval (.tmp j) = a.eval (.tmp j) := Act.eval_put fun d' hd hx => h (by cases hd; cases hx; rfl)
theorem wp_alloc_new {o : Oper} {a : Act} {w : World} {K : Act → World → Prop} (t : TypeId) (ho : o.op = .alloc t) (i : TypeInfo) (z : Value) (hi : P.info? t = some i) (hz : i.zero = some z)
    (h : K (a.put o.dst (.pointer (some ⟨w.heap.size, 0, none⟩))) (w.alloc (.cells z.cells t))) : o.wp P a w K Q := by
  unfold Oper.wp
  have hr : Sem.run P (zeroValue t) w = .ok z w := by simp [zeroValue, typeInfo, hi, hz]
  simp [execOp, ho, go_sem, hr]
  exact h
theorem wp_alloc_agg {o : Oper} {a : Act} {w : World} {K : Act → World → Prop} (t : TypeId) (ho : o.op = .alloc t) (cs : Array Value) (hi : (P.info? t).map (·.zero) = some (some (.agg cs)))
    (h : K (a.put o.dst (.pointer (some ⟨w.heap.size, 0, none⟩))) (w.alloc (.cells cs t))) : o.wp P a w K Q := by
  cases hx : P.info? t with
  | none => rw [hx] at hi; cases hi
  | some i =>
    rw [hx] at hi
    exact wp_alloc_new t ho i (.agg cs) hx (Option.some.inj hi) h
theorem put_size (a : Act) (d : Option Tmp) (v : Value) : (a.put d v).tmps.size = a.tmps.size := by cases d <;> simp [Act.put]
theorem eval_last (a : Act) (d : Nat) (v : Value) (h : d < a.tmps.size) : (a.put (some d) v).eval (.tmp d) = v := by simp [Act.put, Act.eval, Array.getD, h]
theorem wp_call_fun {o : Oper} {a : Act} {w : World} {K : Act → World → Prop} (f : FuncId) (args : Array Operand) (ts : Array TypeId) (ho : o.op = .call { callee := .value (.func f), args := args, argTypes := ts })
    (hf : (P.funcs[f]?).map (fun fn => (fn.name == "runtime.NumGoroutine", fn.body.isSome)) = some (false, true))
    (vs : Array Value) (hvs : args.map a.eval = vs) (h : Calls P f vs w fun e w' => ∃ v, e = .returned v ∧ K (a.put o.dst v) w') : o.wp P a w K Q := by
  subst hvs
  unfold Oper.wp
  have hr : (execOp a.eval o).run P w = .ok (.enter f (args.map a.eval)) w := by
    cases hp : P.funcs[f]? with
    | none => rw [hp] at hf; cases hf
    | some fn =>
      rw [hp] at hf
      have h1 := congrArg Prod.fst (Option.some.inj hf)
      have h2 := congrArg Prod.snd (Option.some.inj hf)
      obtain ⟨c, hc⟩ := Option.isSome_iff_exists.1 h2
      have h1' : fn.name ≠ "runtime.NumGoroutine" := by simpa using h1
      have : (callFunc f (args.map a.eval)).run P w = .ok (.enter f (args.map a.eval)) w := by simp [callFunc, hp, h1', hc]
      simp [execOp, ho, resolve, go_sem, this]
  rw [hr, Oper.upon_enter]
  refine h.mono ?_
  rintro e w' ⟨v, rfl, hK⟩
  exact hK
/-- Operation i waits for operation j. -/
def edge (ops : Array Oper) (i j : Nat) : Bool := ((ops[i]?).map fun o => o.after.any fun e => Region.binds .any e && e.on == j).getD false
theorem edge_on {i j : Nat} (h : edge ops i j = true) {o : Oper} (ho : ops[i]? = some o) {d : Nat → Bool} (haf : ∀ e ∈ o.after, Region.binds .any e = true → d e.on = true) : d j = true := by
  unfold edge at h
  rw [ho] at h
  simp only [Option.map_some, Option.getD_some, Array.any_eq_true'] at h
  obtain ⟨e, he, h2⟩ := h
  simp only [Bool.and_eq_true, beq_iff_eq] at h2
  rw [← h2.2]; exact haf e he h2.1
/-- Each operation waits only for ones ahead of it. -/
def backward (ops : Array Oper) : Bool := (List.range ops.size).all fun i => ((ops[i]?).map fun o => o.after.all fun e => !Region.binds .any e || decide (e.on < i)).getD true
theorem all_done (h : backward ops = true) {d : Nat → Bool} (hd : ∀ i o, ops[i]? = some o → (∀ e ∈ o.after, Region.binds .any e = true → d e.on = true) → d i = true) : ∀ n i, i < n → i < ops.size → d i = true := by
  intro n
  induction n with
  | zero => intro i hi; omega
  | succ n ih =>
    intro i hi hs
    refine hd i ops[i] (by simp [hs]) fun e he hb => ih _ ?_ ?_
    all_goals
      unfold backward at h
      rw [List.all_eq_true] at h
      have := h i (List.mem_range.2 hs)
      rw [Array.getElem?_eq_getElem hs] at this
      simp only [Option.map_some, Option.getD_some, Array.all_eq_true_iff_forall_mem] at this
      have := this e he
      simp [hb] at this
      omega
/-- What an operation is, without what it waits for. -/
def bare (ops : Array Oper) (i : Nat) : Option (Op × Option Tmp × Option (Nat × Bool)) := (ops[i]?).map fun o => (o.op, o.dst, o.guard)
theorem bare_out {i : Nat} {o : Oper} (ho : ops[i]? = some o) {op : Op} {dst : Option Tmp} (h : bare ops i = some (op, dst, none)) {K : Act → World → Prop} {a : Act} {w : World}
    (hh : o.op = op → o.dst = dst → Oper.wp P o a w K Q) : if Region.wanted o (yielded ops a.tmps) = true then Oper.wp P o a w K Q else K (a.put o.dst undef) w := by
  unfold bare at h
  rw [ho] at h
  have h1 := Option.some.inj h
  have hg : o.guard = none := congrArg (fun x => x.2.2) h1
  rw [if_pos (by simp [Region.wanted, hg])]
  exact hh (congrArg (fun x => x.1) h1) (congrArg (fun x => x.2.1) h1)
end
end Go.Proofs.Ytilbhnloelgpdaa
namespace Go.Proofs.Ytilbhnloelgpdaa
open Go.RowKit

/-- Block g is just these cells of type t; none is frozen. -/
def Blk (w : World) (g : Nat) (t : TypeId) (cs : Array Value) : Prop := w.heap[g]? = some (.cells cs t (0, 0))

section
variable {w w' : World} {g : Nat} {t : TypeId} {cs : Array Value}
theorem Blk.lt (h : Blk w g t cs) : g < w.heap.size := by
  unfold Blk at h
  exact (Array.getElem?_eq_some_iff.1 h).1
theorem Blk.cell (h : Blk w g t cs) (j : Nat) : w.cell? ⟨g, j, none⟩ = cs[j]? := cell_of_row w g j cs t (0, 0) h
theorem Blk.frozen (h : Blk w g t cs) (j : Nat) : w.frozen? ⟨g, j, none⟩ = false := frozen_of_row w g j cs t h
theorem Blk.new (w : World) (t : TypeId) (cs : Array Value) : Blk (w.alloc (.cells cs t)) w.heap.size t cs := heap_alloc_new w _
theorem Blk.alloc (h : Blk w g t cs) (o : Obj) : Blk (w.alloc o) g t cs := by
  unfold Blk at h ⊢
  rw [heap_alloc_old w o g (Blk.lt h)]; exact h
theorem Blk.drewN (h : Blk w g t cs) (n : Nat) : Blk (w.drewN n) g t cs := h
theorem Blk.drew (h : Blk w g t cs) : Blk w.drew g t cs := h
theorem Blk.set_ (h : Blk w g t cs) (j : Nat) (v : Value) : Blk (w.setCell ⟨g, j, none⟩ v) g t (cs.setIfInBounds j v) := by
  unfold Blk at h ⊢
  simp [World.setCell, Array.getElem?_modify, h]
theorem Blk.far (h : Blk w g t cs) {b j : Nat} (hne : g ≠ b) (v : Value) : Blk (w.setCell ⟨b, j, none⟩ v) g t cs := by
  unfold Blk at h ⊢
  rw [heap_setCell_other w ⟨b, j, none⟩ g v hne]; exact h
theorem Blk.below {B : Nat} (h : Blk w g t cs) (hb : Below B w w') (hg : g < B) : Blk w' g t cs := by
  unfold Blk at h ⊢
  rw [hb.block g hg]; exact h
theorem Blk.row (h : Blk w g t cs) (new : Array Value) : Blk (w.setRow g new) g t new := by
  unfold Blk at h ⊢
  simp [World.setRow, Array.getElem?_modify, h]
theorem Blk.row_far (h : Blk w g t cs) {b : Nat} (hne : b ≠ g) (new : Array Value) : Blk (w.setRow b new) g t cs := by
  unfold Blk at h ⊢
  simp [World.setRow, Array.getElem?_modify, h, hne]
theorem Blk.toRow (h : Blk w g t cs) : Row w (some ⟨g, 0, none⟩) cs.size (fun j => cs.getD j (.bool false)) := by
  refine .inr ⟨g, 0, rfl, h.lt, fun j hj => ?_⟩
  rw [Nat.zero_add, h.cell j]
  simp [Array.getElem?_eq_getElem hj]
end
theorem below_setRow {B : Nat} {w w1 : World} (h : Below B w w1) {g : Nat} (hg : B ≤ g) (new : Array Value) : Below B w (w1.setRow g new) :=
  ⟨h.os, h.tape, h.output, by simpa using h.size, fun b hb => by
    rw [← h.block b hb]
    simp [World.setRow, Array.getElem?_modify, show g ≠ b from by omega]⟩
end Go.Proofs.Ytilbhnloelgpdaa
namespace Go.Proofs.Ytilbhnloelgpdaa
open Go.RowKit

/-- v is a slice of n elements of sz cells each, which hold xs; all its cells up to the capacity may be written; they lie in block b, if there are any. -/
def Own (w : World) (sz : Nat) (v : Value) (b : Option Nat) (n : Nat) (xs : List Value) : Prop :=
  xs.length = n * sz ∧ ∃ A c, v = .slice A n c ∧ n ≤ c ∧ c ≤ maxLen ∧
    ((b = none ∧ c = 0) ∨ ∃ g off, b = some g ∧ A = some ⟨g, off, none⟩ ∧ g < w.heap.size ∧ (∀ j, j < c * sz → (w.cell? ⟨g, off + j, none⟩).isSome = true ∧ w.frozen? ⟨g, off + j, none⟩ = false) ∧
      ∀ j, j < n * sz → w.cell? ⟨g, off + j, none⟩ = xs[j]?)

section
variable {w w' : World} {sz : Nat} {v : Value} {b : Option Nat} {n : Nat} {xs : List Value}
theorem Own.none_ (w : World) (sz : Nat) : Own w sz (.slice none 0 0) none 0 [] := ⟨by simp, none, 0, rfl, Nat.le_refl _, Nat.zero_le _, .inl ⟨rfl, rfl⟩⟩
theorem Own.len (h : Own w sz v b n xs) : xs.length = n * sz := h.1
theorem Own.lt (h : Own w sz v b n xs) {g : Nat} (hb : b = some g) : g < w.heap.size := by
  obtain ⟨_, A, c, _, _, _, ⟨h1, _⟩ | ⟨g', off, h1, _, h2, _⟩⟩ := h
  · rw [hb] at h1; cases h1
  · rw [hb] at h1; cases h1; exact h2
/-- It looks at its own block alone. -/
theorem Own.carry (h : Own w sz v b n xs) (hs : w.heap.size ≤ w'.heap.size) (hb : ∀ g, b = some g → w'.heap[g]? = w.heap[g]?) : Own w' sz v b n xs := by
  obtain ⟨h0, A, c, hv, h1, h2, ⟨h3, h4⟩ | ⟨g, off, h3, hA, h4, h5, h6⟩⟩ := h
  · exact ⟨h0, A, c, hv, h1, h2, .inl ⟨h3, h4⟩⟩
  · have e := hb g h3
    refine ⟨h0, A, c, hv, h1, h2, .inr ⟨g, off, h3, hA, by omega, fun j hj => ?_, fun j hj => ?_⟩⟩
    · rw [World.cell?_of_block (a := ⟨g, off + j, none⟩) e, World.frozen?_of_block (a := ⟨g, off + j, none⟩) e]; exact h5 j hj
    · rw [World.cell?_of_block (a := ⟨g, off + j, none⟩) e]; exact h6 j hj
theorem Own.below (h : Own w sz v b n xs) (hb : Below w.heap.size w w') : Own w' sz v b n xs := h.carry hb.size fun g hg => hb.block g (h.lt hg)
theorem Own.grown (h : Own w sz v b n xs) {r : Option Nat} (hg : w.grownBy w' r) (hr : ∀ g, b = some g → r ≠ some g) : Own w' sz v b n xs :=
  h.carry hg.size fun g hb => hg.block g (h.lt hb) fun e => hr g hb e.symm
theorem Own.row (h : Own w sz v b n xs) : ∃ A c, v = .slice A n c ∧ n ≤ c ∧ c ≤ maxLen ∧ Row w A (n * sz) fun j => xs.getD j (.bool false) := by
  obtain ⟨h0, A, c, hv, h1, h2, ⟨h3, h4⟩ | ⟨g, off, h3, hA, h4, h5, h6⟩⟩ := h
  · refine ⟨A, c, hv, h1, h2, .inl ?_⟩
    have : n = 0 := by omega
    rw [this, Nat.zero_mul]
  · refine ⟨A, c, hv, h1, h2, .inr ⟨g, off, hA, h4, fun j hj => ?_⟩⟩
    have hj2 : j < xs.length := by omega
    rw [h6 j hj]
    simp [List.getElem?_eq_getElem hj2]
/-- What was made as the kit's laws tell it. -/
theorem Own.of_ownsRow {base : Nat} {e : TypeId} (h : w.ownsRow base e sz v n xs) : ∃ b, Own w sz v b n xs ∧ (b = none ∨ ∃ g, b = some g ∧ base ≤ g) := by
  obtain ⟨h0, ⟨rfl, rfl⟩ | ⟨g, c, cur, rfl, hb, hh, hnc, hcm, hsz, ht⟩⟩ := h
  · exact ⟨none, ⟨h0, none, 0, rfl, Nat.le_refl _, Nat.zero_le _, .inl ⟨rfl, rfl⟩⟩, .inl rfl⟩
  · refine ⟨some g, ⟨h0, _, c, rfl, hnc, hcm, .inr ⟨g, 0, rfl, rfl, (Array.getElem?_eq_some_iff.1 hh).1, fun j hj => ?_, fun j hj => ?_⟩⟩, .inr ⟨g, rfl, hb⟩⟩
    · rw [Nat.zero_add, cell_of_row w g j cur e (0, 0) hh]
      refine ⟨?_, frozen_of_row w g j cur e hh⟩
      rw [Array.getElem?_eq_getElem (by omega)]; rfl
    · rw [Nat.zero_add, cell_of_row w g j cur e (0, 0) hh, ← ht, List.getElem?_take_of_lt hj, Array.getElem?_toList]
theorem cells_grown (h : Own w sz v b n xs) : ∀ A c, v = .slice A n c → ∀ P : Program, (Builtin.firstCells sz n (.slice A n c)).run P w.drew = .ok xs.toArray w.drew := by
  intro A c hv P
  obtain ⟨h0, A', c', hv', h1, h2, h3⟩ := h
  rw [hv] at hv'
  cases hv'
  rcases h3 with ⟨_, h4⟩ | ⟨g, off, _, rfl, _, _, h6⟩
  · have hn : n = 0 := by omega
    subst hn
    have hx : xs = [] := List.eq_nil_of_length_eq_zero (by omega)
    subst hx
    cases A with
    | none => exact run_firstCells_none w.drew sz 0 0 c
    | some a => exact run_firstCells_some w.drew sz 0 a 0 c [] (by simp) (by simp)
  · refine run_firstCells_some w.drew sz n _ n c xs h0 fun j u hu => ?_
    have hj : j < n * sz := by rw [← h0]; exact (List.getElem?_eq_some_iff.1 hu).1
    rw [← hu, ← h6 j hj]
    simp [Addr.add_lit]
theorem tape_setCells (b : Nat) : ∀ (vs : List Value) (o : Nat) (w : World), (w.setCells b o vs).tape = w.tape
  | [], _, _ => rfl
  | _ :: vs, o, w => by
    show ((w.setCell _ _).setCells b (o + 1) vs).tape = _
    rw [tape_setCells b vs (o + 1)]; rfl
/-- n more elements at its end. -/
theorem run_append_own2 {P : Program} (h : Own w sz v b n xs) (t tx ty e : TypeId) (i : TypeInfo) (z : Value) (bytes : Nat) (ht : P.underlying t = some (.slice e)) (hi : P.info? e = some i) (hz : i.zero = some z) (hsize : i.size = sz) (hby : i.bytes = bytes) (hzs : z.cells.size = sz) (hsz : 0 < sz)
    (x : Value) (m : Nat) (news : List Value) (hs : Src P sz tx x m news w) (h63 : n + m ≤ maxLen) (hbytes : (n + m) * bytes ≤ 140737488355328) :
    ∃ v' w' b', (Builtin.append_ #[t, tx] ty #[v, x]).run P w = .ok v' w' ∧ Own w' sz v' b' (n + m) (xs ++ news) ∧ w.grownBy w' b ∧ (b' = b ∨ b' = some w.heap.size) := by
  subst hsize
  subst hby
  have hfc := cells_grown h
  obtain ⟨h0, A, c, rfl, h1, h2, h3⟩ := h
  have hnl := hs.newsLen
  have hlen : (xs ++ news).length = (n + m) * i.size := by rw [List.length_append, h0, hnl, Nat.add_mul]
  by_cases hroom : n + m ≤ c
  · rcases h3 with ⟨rfl, rfl⟩ | ⟨g, off, rfl, rfl, hg, h5, h6⟩
    · have hn : n = 0 := by omega
      have hm : m = 0 := by omega
      subst hn
      subst hm
      have hx : news = [] := List.eq_nil_of_length_eq_zero (by omega)
      subst hx
      exact ⟨_, _, none, run_append_nothing w t tx ty e i ht hi A 0 0 (Nat.le_refl _) x hs, ⟨by simpa using h0, A, 0, rfl, Nat.le_refl _, Nat.zero_le _, .inl ⟨rfl, rfl⟩⟩, World.grownBy.refl w _, .inl rfl⟩
    · have hle : n * i.size + m * i.size ≤ c * i.size := by rw [← Nat.add_mul]; exact Nat.mul_le_mul_right _ hroom
      have hc : ∀ j, j < news.length → (w.cell? ⟨g, off + n * i.size + j, none⟩).isSome = true := fun j hj => by rw [Nat.add_assoc]; exact (h5 _ (by omega)).1
      have hf : ∀ j, j < news.length → w.frozen? ⟨g, off + n * i.size + j, none⟩ = false := fun j hj => by rw [Nat.add_assoc]; exact (h5 _ (by omega)).2
      refine ⟨_, _, some g, run_append_room_src w t tx ty e i ht hi g off n c x m news hs hroom hc hf, ⟨hlen, _, c, rfl, hroom, h2, .inr ⟨g, off, rfl, rfl, ?_, fun j hj => ⟨?_, ?_⟩, fun j hj => ?_⟩⟩, ?_, .inl rfl⟩
      · have := (World.keptBut_setCells g (may := fun _ => True) news (off + n * i.size) w (fun _ _ => trivial)).size
        omega
      · by_cases hj2 : n * i.size ≤ j ∧ j < n * i.size + news.length
        · have := World.cell?_setCells_in g news (off + n * i.size) w hc (j - n * i.size) (by omega)
          rw [show off + n * i.size + (j - n * i.size) = off + j from by omega] at this
          rw [this]; rfl
        · rw [World.cell?_setCells_out g news (off + n * i.size) w ⟨g, off + j, none⟩ (fun _ _ => by show off + j < _ ∨ _ ≤ off + j; omega)]
          exact (h5 j hj).1
      · rw [World.frozen?_setCells]; exact (h5 j hj).2
      · rw [Nat.add_mul] at hj
        by_cases hj2 : j < n * i.size
        · rw [World.cell?_setCells_out g news (off + n * i.size) w ⟨g, off + j, none⟩ (fun _ _ => by show off + j < _ ∨ _ ≤ off + j; omega), List.getElem?_append_left (by omega)]
          exact h6 j hj2
        · have := World.cell?_setCells_in g news (off + n * i.size) w hc (j - n * i.size) (by omega)
          rw [show off + n * i.size + (j - n * i.size) = off + j from by omega] at this
          rw [this, List.getElem?_append_right (by omega), h0, List.getElem?_eq_getElem (by omega)]
      · have hk := World.keptBut_setCells g (may := fun p => p.block = g) news (off + n * i.size) w (fun _ _ => rfl)
        exact ⟨World.os_setCells .., tape_setCells .., World.output_setCells .., hk.size, fun k hk hne => World.heap_setCells_other w g _ news hk fun e => hne (by rw [e])⟩
  · have hsmall : n + m ≤ 9223372036854775807 := by simp only [maxLen] at h63; omega
    have hge := grownCap_ge w (n + m) c e
    have hcm : grownCap w (n + m) c e ≤ maxLen := grownCap_le_maxLen w (n + m) c e h63
    have hr := run_append_grow_src (P := P) w t tx ty e i z ht hi hz A n c xs (hfc A c rfl P) x m news hs (by omega) (by omega) (growslice_fits (by omega) hbytes)
    have hh := heap_alloc_new w.drew (.cells ((xs ++ news).toArray ++ Builtin.zeroCells z.cells (grownCap w (n + m) c e - (n + m))) e)
    refine ⟨_, _, some w.heap.size, hr, ⟨hlen, _, _, rfl, hge, hcm, .inr ⟨w.heap.size, 0, rfl, rfl, by simp, fun j hj => ?_, fun j hj => ?_⟩⟩, ⟨rfl, rfl, rfl, by simp, fun k hk _ => heap_alloc_old w.drew _ k hk⟩, .inr rfl⟩
    · rw [Nat.zero_add, cell_of_row _ w.heap.size j _ e (0, 0) hh]
      refine ⟨?_, frozen_of_row _ w.heap.size j _ e hh⟩
      have hsz2 : ((xs ++ news).toArray ++ Builtin.zeroCells z.cells (grownCap w (n + m) c e - (n + m))).size = grownCap w (n + m) c e * i.size := by
        rw [Array.size_append, List.size_toArray, size_zeroCells, hzs, hlen, ← Nat.add_mul]
        congr 1
        omega
      rw [Array.getElem?_eq_getElem (by omega)]; rfl
    · rw [Nat.zero_add, cell_of_row _ w.heap.size j _ e (0, 0) hh, Array.getElem?_append_left (by simpa [hlen] using hj)]
      simp
/-- The same, for the walk. -/
theorem wpList_append_own2 {P : Program} {ops : Array Oper} {rest : List Oper} {o : Oper} {a : Act} {Q : Exit → Act → World → Prop} (hgd : o.guard = none) (s x : Operand) (t tx : TypeId)
    (ho : o.op = .call { callee := .builtin .append, args := #[s, x], argTypes := #[t, tx] })
    (e : TypeId) (i : TypeInfo) (z : Value) (bytes : Nat) (ht : P.underlying t = some (.slice e)) (hi : P.info? e = some i) (hz : i.zero = some z) (hsize : i.size = sz) (hby : i.bytes = bytes) (hzs : z.cells.size = sz) (hsz : 0 < sz)
    (hv : a.eval s = v) (h : Own w sz v b n xs) (xv : Value) (m : Nat) (news : List Value) (hx : a.eval x = xv) (hs : Src P sz tx xv m news w) (h63 : n + m ≤ maxLen) (hbytes : (n + m) * bytes ≤ 140737488355328)
    (hK : ∀ A c w' b', Own w' sz (.slice A (n + m) c) b' (n + m) (xs ++ news) → w.grownBy w' b → (b' = b ∨ b' = some w.heap.size) → wpList P ops Q rest (a.put o.dst (.slice A (n + m) c)) w') : wpList P ops Q (o :: rest) a w := by
  refine wpList_plain hgd fun K hK' => ?_
  obtain ⟨v', w', b', hrun, h1, h2, h3⟩ := run_append_own2 (P := P) h t tx o.type e i z bytes ht hi hz hsize hby hzs hsz xv m news hs h63 hbytes
  obtain ⟨hl, A, c, rfl, hrest⟩ := h1
  unfold Oper.wp execOp
  simp only [ho, resolve, invoke, builtin, Sem.run_bind, Sem.run_pure, Result.andThen_ok, List.map_toArray, List.map_cons, List.map_nil, hv, hx, hrun]
  exact hK' _ _ (hK A c w' b' ⟨hl, A, c, rfl, hrest⟩ h2 h3)
/-- A cut of it. -/
theorem Own.cut {A : Option Addr} {c : Nat} (h : Own w sz (.slice A n c) b n xs) {l r : Nat} (hlr : l ≤ r) (hr : r ≤ n) :
    ∃ b', Own w sz (.slice (if c = l then A else A.map (·.add (l * sz))) (r - l) (c - l)) b' (r - l) ((xs.drop (l * sz)).take ((r - l) * sz)) ∧ (b' = b ∨ b' = none) := by
  obtain ⟨h0, A', c', hv, h1, h2, h3⟩ := h
  cases hv
  have hl : ((xs.drop (l * sz)).take ((r - l) * sz)).length = (r - l) * sz := by
    rw [List.length_take, List.length_drop, h0, ← Nat.sub_mul]
    exact Nat.min_eq_left (Nat.mul_le_mul_right _ (by omega))
  by_cases hc : c = l
  · refine ⟨none, ⟨hl, _, _, rfl, by omega, by omega, .inl ⟨rfl, by omega⟩⟩, .inr rfl⟩
  · rcases h3 with ⟨rfl, rfl⟩ | ⟨g, off, rfl, rfl, hg, h5, h6⟩
    · omega
    · refine ⟨some g, ⟨hl, _, _, rfl, by omega, by omega, .inr ⟨g, off + l * sz, rfl, ?_, hg, fun j hj => ?_, fun j hj => ?_⟩⟩, .inl rfl⟩
      · rw [if_neg hc]; simp [Addr.add_lit]
      · have : l * sz + (c - l) * sz = c * sz := by rw [← Nat.add_mul]; congr 1; omega
        rw [Nat.add_assoc]; exact h5 _ (by omega)
      · have e1 : l * sz + (r - l) * sz = r * sz := by rw [← Nat.add_mul]; congr 1; omega
        have e2 : r * sz ≤ n * sz := Nat.mul_le_mul_right _ hr
        rw [Nat.add_assoc, h6 _ (by omega), List.getElem?_take_of_lt hj, List.getElem?_drop]
end
/-- Of what was there only the blocks of S may have turned. -/
structure Only (S : Nat → Prop) (w w' : World) : Prop where
  os : w'.os = w.os
  tape : w'.tape = w.tape
  output : w'.output = w.output
  size : w.heap.size ≤ w'.heap.size
  block : ∀ k, k < w.heap.size → ¬ S k → w'.heap[k]? = w.heap[k]?
section
variable {S S' : Nat → Prop} {w w1 w2 : World}
theorem Only.refl (S : Nat → Prop) (w : World) : Only S w w := ⟨rfl, rfl, rfl, Nat.le_refl _, fun _ _ _ => rfl⟩
theorem Only.trans (h : Only S w w1) (h' : Only S' w1 w2) (hs : ∀ k, S' k → S k ∨ w.heap.size ≤ k) : Only S w w2 :=
  ⟨h'.os.trans h.os, h'.tape.trans h.tape, h'.output.trans h.output, Nat.le_trans h.size h'.size, fun k hk hn =>
    (h'.block k (Nat.lt_of_lt_of_le hk h.size) fun e => (hs k e).elim hn (by omega)).trans (h.block k hk hn)⟩
theorem Only.mono (h : Only S w w1) (hs : ∀ k, S k → S' k) : Only S' w w1 := ⟨h.os, h.tape, h.output, h.size, fun k hk hn => h.block k hk fun e => hn (hs k e)⟩
theorem Only.of_below (h : Below w.heap.size w w1) : Only S w w1 := ⟨h.os, h.tape, h.output, h.size, fun k hk _ => h.block k hk⟩
theorem Only.of_grown {b : Option Nat} (h : w.grownBy w1 b) : Only (fun k => some k = b) w w1 := ⟨h.os, h.tape, h.output, h.size, fun k hk hn => h.block k hk hn⟩
theorem Only.below (h : Only S w w1) {B : Nat} (hB : B ≤ w.heap.size) (hs : ∀ k, S k → B ≤ k) : Below B w w1 :=
  ⟨h.os, h.tape, h.output, h.size, fun k hk => h.block k (by omega) fun e => by have := hs k e; omega⟩
theorem Only.then_below (h : Only S w w1) (h' : Below w1.heap.size w1 w2) : Only S w w2 := h.trans (S' := fun _ => False) (Only.of_below h') fun _ e => e.elim
theorem Only.drewN (h : Only S w w1) (n : Nat) : Only S w (w1.drewN n) := ⟨h.os, h.tape, h.output, h.size, h.block⟩
theorem Only.setCell (h : Only S w w1) {g j : Nat} (hg : S g ∨ w.heap.size ≤ g) (v : Value) : Only S w (w1.setCell ⟨g, j, none⟩ v) := by
  have hb : Below g w1 (w1.setCell ⟨g, j, none⟩ v) := (Below.refl g w1).setCell (p := ⟨g, j, none⟩) (Nat.le_refl _) v
  exact ⟨hb.os.trans h.os, hb.tape.trans h.tape, hb.output.trans h.output, Nat.le_trans h.size hb.size, fun k hk hn => (heap_setCell_other w1 ⟨g, j, none⟩ k v (by rintro rfl; rcases hg with hg | hg <;> first | exact hn hg | omega)).trans (h.block k hk hn)⟩
end
section
variable {w w' w0 : World} {sz : Nat} {v : Value} {b : Option Nat} {n : Nat} {xs : List Value}
theorem Own.src (h : Own w sz v b n xs) (h1 : ∀ u ∈ xs, u.oneCell' = true) {P : Program} {tx e : TypeId} (ht : P.underlying tx = some (.slice e)) : Src P sz tx v n xs w := by
  obtain ⟨h0, A, c, rfl, hrest⟩ := h
  have hd := cells_grown ⟨h0, A, c, rfl, hrest⟩ A c rfl P
  obtain ⟨_, _, h3⟩ := hrest
  refine ⟨.inl ⟨e, ht⟩, fun _ => rfl, ?_, hd, h0, h1⟩
  rcases h3 with ⟨_, h4⟩ | ⟨g, off, _, rfl, _, _, h6⟩
  · have hn : n = 0 := by omega
    subst hn
    have hx : xs = [] := List.eq_nil_of_length_eq_zero (by omega)
    subst hx
    cases A with
    | none => exact run_firstCells_none w sz 0 0 c
    | some a => exact run_firstCells_some w sz 0 a 0 c [] (by simp) (by simp)
  · refine run_firstCells_some w sz n _ n c xs h0 fun j u hu => ?_
    have hj : j < n * sz := by rw [← h0]; exact (List.getElem?_eq_some_iff.1 hu).1
    rw [← hu, ← h6 j hj]
    simp [Addr.add_lit]
/-- It was made behind w0. -/
def Mine (w0 w : World) (sz : Nat) (v : Value) (n : Nat) (xs : List Value) : Prop := ∃ b, Own w sz v b n xs ∧ ∀ g, b = some g → w0.heap.size ≤ g
theorem Mine.empty (w0 w : World) (sz : Nat) (A : Option Addr) : Mine w0 w sz (.slice A 0 0) 0 [] := ⟨none, ⟨by simp, A, 0, rfl, Nat.le_refl _, Nat.zero_le _, .inl ⟨rfl, rfl⟩⟩, nofun⟩
theorem Mine.carry (h : Mine w0 w sz v n xs) (hs : w.heap.size ≤ w'.heap.size) (hb : ∀ g, w0.heap.size ≤ g → g < w.heap.size → w'.heap[g]? = w.heap[g]?) : Mine w0 w' sz v n xs := by
  obtain ⟨b, h1, h2⟩ := h
  exact ⟨b, h1.carry hs fun g hg => hb g (h2 g hg) (h1.lt hg), h2⟩
theorem Mine.alloc (h : Mine w0 w sz v n xs) (o : Obj) : Mine w0 (w.alloc o) sz v n xs := h.carry (by simp) fun g _ hg => heap_alloc_old w o g hg
theorem Mine.drewN (h : Mine w0 w sz v n xs) (k : Nat) : Mine w0 (w.drewN k) sz v n xs := h
theorem Mine.drew (h : Mine w0 w sz v n xs) : Mine w0 w.drew sz v n xs := h.carry (Nat.le_refl _) fun _ _ _ => rfl
theorem Mine.below (h : Mine w0 w sz v n xs) (hb : Below w.heap.size w w') : Mine w0 w' sz v n xs := h.carry hb.size fun g _ hg => hb.block g hg
theorem Mine.row (h : Mine w0 w sz v n xs) : ∃ A c, v = .slice A n c ∧ n ≤ c ∧ c ≤ maxLen ∧ Row w A (n * sz) fun j => xs.getD j (.bool false) := by
  obtain ⟨b, h1, _⟩ := h
  exact h1.row
theorem Mine.of_ownsRow {e : TypeId} (h : w.ownsRow w0.heap.size e sz v n xs) : Mine w0 w sz v n xs := by
  obtain ⟨b, h1, h2⟩ := Own.of_ownsRow h
  refine ⟨b, h1, fun g hg => ?_⟩
  rcases h2 with h2 | ⟨g', h3, h4⟩
  · rw [h2] at hg; cases hg
  · rw [h3] at hg; cases hg; exact h4
theorem Mine.len (h : Mine w0 w sz v n xs) : xs.length = n * sz := by
  obtain ⟨b, h1, _⟩ := h
  exact h1.len
theorem Mine.cut {A : Option Addr} {c : Nat} (h : Mine w0 w sz (.slice A n c) n xs) {l r : Nat} (hlr : l ≤ r) (hr : r ≤ n) :
    Mine w0 w sz (.slice (if c = l then A else A.map (·.add (l * sz))) (r - l) (c - l)) (r - l) ((xs.drop (l * sz)).take ((r - l) * sz)) := by
  obtain ⟨b, h1, h2⟩ := h
  obtain ⟨b', h3, h4⟩ := h1.cut hlr hr
  refine ⟨b', h3, fun g hg => ?_⟩
  rcases h4 with h4 | h4
  · exact h2 g (h4 ▸ hg)
  · rw [h4] at hg; cases hg
theorem Mine.fresh {g c : Nat} (hB : ∃ t cs, w.heap[g]? = some (.cells cs t (0, 0)) ∧ cs.size = c * sz ∧ ∀ j, j < n * sz → cs[j]? = xs[j]?) (hx : xs.length = n * sz) (hn : n ≤ c) (hc : c ≤ maxLen) (hg : w0.heap.size ≤ g) :
    Mine w0 w sz (.slice (some ⟨g, 0, none⟩) n c) n xs := by
  obtain ⟨t, cs, h1, h2, h3⟩ := hB
  refine ⟨some g, ⟨hx, _, c, rfl, hn, hc, .inr ⟨g, 0, rfl, rfl, (Array.getElem?_eq_some_iff.1 h1).1, fun j hj => ?_, fun j hj => ?_⟩⟩, fun g' e => by cases e; exact hg⟩
  · rw [Nat.zero_add, cell_of_row w g j cs t (0, 0) h1]
    refine ⟨?_, frozen_of_row w g j cs t h1⟩
    rw [Array.getElem?_eq_getElem (by omega)]; rfl
  · rw [Nat.zero_add, cell_of_row w g j cs t (0, 0) h1]; exact h3 j hj
/-- n more elements at its end, for the walk. -/
theorem wpList_append_mine {P : Program} {ops : Array Oper} {rest : List Oper} {o : Oper} {a : Act} {Q : Exit → Act → World → Prop} (hgd : o.guard = none) (s x : Operand) (t tx : TypeId)
    (ho : o.op = .call { callee := .builtin .append, args := #[s, x], argTypes := #[t, tx] })
    (e : TypeId) (i : TypeInfo) (z : Value) (bytes : Nat) (ht : P.underlying t = some (.slice e)) (hi : P.info? e = some i) (hz : i.zero = some z) (hsize : i.size = sz) (hby : i.bytes = bytes) (hzs : z.cells.size = sz) (hsz : 0 < sz)
    (hv : a.eval s = v) (h : Mine w0 w sz v n xs) (hbl : Below w0.heap.size w0 w) (xv : Value) (m : Nat) (news : List Value) (hx : a.eval x = xv) (hs : Src P sz tx xv m news w) (h63 : n + m ≤ maxLen) (hbytes : (n + m) * bytes ≤ 140737488355328)
    (hK : ∀ A c w', Mine w0 w' sz (.slice A (n + m) c) (n + m) (xs ++ news) → Below w0.heap.size w0 w' → wpList P ops Q rest (a.put o.dst (.slice A (n + m) c)) w') : wpList P ops Q (o :: rest) a w := by
  obtain ⟨b, h1, h2⟩ := h
  refine wpList_append_own2 hgd s x t tx ho e i z bytes ht hi hz hsize hby hzs hsz hv h1 xv m news hx hs h63 hbytes fun A c w' b' hown hg hb => ?_
  refine hK A c w' ⟨b', hown, fun g hg' => ?_⟩ (below_grown hbl hg h2)
  rcases hb with hb | hb
  · exact h2 g (hb ▸ hg')
  · rw [hb] at hg'; cases hg'; exact hbl.size
theorem step_append_mine {P : Program} {ops : Array Oper} {o : Oper} {a : Act} {K : Act → World → Prop} {Q : Exit → Act → World → Prop} {E : Prop} (hgd : o.guard = none) (s x : Operand) (t tx : TypeId)
    (ho : o.op = .call { callee := .builtin .append, args := #[s, x], argTypes := #[t, tx] })
    (e : TypeId) (i : TypeInfo) (z : Value) (bytes : Nat) (ht : P.underlying t = some (.slice e)) (hi : P.info? e = some i) (hz : i.zero = some z) (hsize : i.size = sz) (hby : i.bytes = bytes) (hzs : z.cells.size = sz) (hsz : 0 < sz)
    (hv : a.eval s = v) (h : Mine w0 w sz v n xs) (hbl : Below w0.heap.size w0 w) (xv : Value) (m : Nat) (news : List Value) (hx : a.eval x = xv) (hs : Src P sz tx xv m news w) (h63 : n + m ≤ maxLen) (hbytes : (n + m) * bytes ≤ 140737488355328)
    (hK : ∀ A c w', Mine w0 w' sz (.slice A (n + m) c) (n + m) (xs ++ news) → Below w0.heap.size w0 w' → K (a.put o.dst (.slice A (n + m) c)) w') :
    if Region.wanted o (yielded ops a.tmps) = true then Oper.wp P o a w K Q else E := by
  have hw : Region.wanted o (yielded ops a.tmps) = true := by simp [Region.wanted, hgd]
  rw [if_pos hw]
  obtain ⟨b, h1, h2⟩ := h
  obtain ⟨v', w', b', hrun, h3, h4, h5⟩ := run_append_own2 (P := P) h1 t tx o.type e i z bytes ht hi hz hsize hby hzs hsz xv m news hs h63 hbytes
  obtain ⟨hl, A, c, rfl, hrest⟩ := h3
  unfold Oper.wp execOp
  simp only [ho, resolve, invoke, builtin, Sem.run_bind, Sem.run_pure, Result.andThen_ok, List.map_toArray, List.map_cons, List.map_nil, hv, hx, hrun]
  refine hK _ _ _ ⟨b', ⟨hl, A, c, rfl, hrest⟩, fun g hg' => ?_⟩ (below_grown hbl h4 h2)
  rcases h5 with hb | hb
  · exact h2 g (hb ▸ hg')
  · rw [hb] at hg'; cases hg'; exact hbl.size
/-- What has just been built, as a source. -/
theorem src_new {P : Program} {tx e : TypeId} (ht : P.underlying tx = some (.slice e)) (w : World) (t : TypeId) (news : List Value) (n c : Nat) (hn : news.length = n * sz) (h1 : ∀ u ∈ news, u.oneCell' = true) :
    Src P sz tx (.slice (some ⟨w.heap.size, 0, none⟩) n c) n news (w.alloc (.cells news.toArray t)) := by
  refine Src.ofSlice _ ht ⟨w.heap.size, 0, none⟩ n c news hn (fun j u hu => ?_) h1
  have hh := heap_alloc_new w (.cells news.toArray t)
  rw [← hu, show (⟨w.heap.size, 0, none⟩ : Addr).add j = ⟨w.heap.size, j, none⟩ from by simp [Addr.add_lit], cell_of_row _ w.heap.size j _ t (0, 0) hh]
  simp
theorem src_new_drew {P : Program} {tx e : TypeId} (ht : P.underlying tx = some (.slice e)) (w : World) (t : TypeId) (news : List Value) (n c : Nat) (hn : news.length = n * sz) (h1 : ∀ u ∈ news, u.oneCell' = true) :
    Src P sz tx (.slice (some ⟨w.heap.size, 0, none⟩) n c) n news (w.alloc (.cells news.toArray t)).drew := by
  refine Src.ofSlice _ ht ⟨w.heap.size, 0, none⟩ n c news hn (fun j u hu => ?_) h1
  have hh : (w.alloc (.cells news.toArray t)).drew.heap[w.heap.size]? = _ := heap_alloc_new w (.cells news.toArray t)
  rw [← hu, show (⟨w.heap.size, 0, none⟩ : Addr).add j = ⟨w.heap.size, j, none⟩ from by simp [Addr.add_lit], cell_of_row _ w.heap.size j _ t (0, 0) hh]
  simp
end
end Go.Proofs.Ytilbhnloelgpdaa
namespace Go.Proofs.Ytilbhnloelgpdaa
open Go.RowKit
section
variable {w w0 : World} {sz : Nat} {v : Value} {b : Option Nat} {n : Nat} {xs : List Value}
theorem run_append_keep {P : Program} {g off c : Nat} (h : Own w sz (.slice (some ⟨g, off, none⟩) n c) b n xs) (t tx ty e : TypeId) (i : TypeInfo) (z : Value) (bytes : Nat) (ht : P.underlying t = some (.slice e)) (hi : P.info? e = some i) (hz : i.zero = some z) (hsize : i.size = sz) (hby : i.bytes = bytes)
    (x : Value) (m : Nat) (news : List Value) (hs : Src P sz tx x m news w) (h63 : n + m ≤ maxLen) (hbytes : (n + m) * bytes ≤ 140737488355328)
    {v' : Value} {w' : World} (hrun : (Builtin.append_ #[t, tx] ty #[.slice (some ⟨g, off, none⟩) n c, x]).run P w = .ok v' w') (j : Nat) (hj : j < n * sz) : w'.cell? ⟨g, off + j, none⟩ = w.cell? ⟨g, off + j, none⟩ := by
  subst hsize
  subst hby
  have hfc := cells_grown h
  have hlt : ∀ k, b = some k → k < w.heap.size := fun k hk => h.lt hk
  obtain ⟨h0, A, c', heq, h1, h2, h3⟩ := h
  cases heq
  have hnl := hs.newsLen
  rcases h3 with ⟨rfl, rfl⟩ | ⟨g', off', rfl, heq, hg, h5, h6⟩
  · have hn : n = 0 := by omega
    rw [hn, Nat.zero_mul] at hj
    omega
  · cases heq
    by_cases hroom : n + m ≤ c
    · have hle : n * i.size + m * i.size ≤ c * i.size := by rw [← Nat.add_mul]; exact Nat.mul_le_mul_right _ hroom
      have hc : ∀ j, j < news.length → (w.cell? ⟨g, off + n * i.size + j, none⟩).isSome = true := fun j hj => by rw [Nat.add_assoc]; exact (h5 _ (by omega)).1
      have hf : ∀ j, j < news.length → w.frozen? ⟨g, off + n * i.size + j, none⟩ = false := fun j hj => by rw [Nat.add_assoc]; exact (h5 _ (by omega)).2
      have e1 := run_append_room_src (P := P) w t tx ty e i ht hi g off n c x m news hs hroom hc hf
      rw [e1] at hrun
      cases hrun
      exact World.cell?_setCells_out g news (off + n * i.size) w ⟨g, off + j, none⟩ (fun _ _ => by show off + j < _ ∨ _ ≤ off + j; omega)
    · have hr := run_append_grow_src (P := P) w t tx ty e i z ht hi hz (some ⟨g, off, none⟩) n c xs (hfc _ c rfl P) x m news hs (by omega) (by simp only [maxLen] at h63; omega) (growslice_fits (by omega) hbytes)
      rw [hr] at hrun
      cases hrun
      exact World.cell?_of_block (a := ⟨g, off + j, none⟩) (heap_alloc_old w.drew _ g hg)
theorem step_append_keep {P : Program} {ops : Array Oper} {o : Oper} {a : Act} {K : Act → World → Prop} {Q : Exit → Act → World → Prop} {E : Prop} (hgd : o.guard = none) (s x : Operand) (t tx : TypeId)
    (ho : o.op = .call { callee := .builtin .append, args := #[s, x], argTypes := #[t, tx] })
    (e : TypeId) (i : TypeInfo) (z : Value) (bytes : Nat) (ht : P.underlying t = some (.slice e)) (hi : P.info? e = some i) (hz : i.zero = some z) (hsize : i.size = sz) (hby : i.bytes = bytes) (hzs : z.cells.size = sz) (hsz : 0 < sz)
    (g off c : Nat) (hv : a.eval s = .slice (some ⟨g, off, none⟩) n c) (h : Mine w0 w sz (.slice (some ⟨g, off, none⟩) n c) n xs) (hbl : Below w0.heap.size w0 w) (xv : Value) (m : Nat) (news : List Value) (hx : a.eval x = xv) (hs : Src P sz tx xv m news w) (h63 : n + m ≤ maxLen) (hbytes : (n + m) * bytes ≤ 140737488355328)
    (hK : ∀ A c w', Mine w0 w' sz (.slice A (n + m) c) (n + m) (xs ++ news) → Below w0.heap.size w0 w' → (∀ j, j < n * sz → w'.cell? ⟨g, off + j, none⟩ = w.cell? ⟨g, off + j, none⟩) → K (a.put o.dst (.slice A (n + m) c)) w') :
    if Region.wanted o (yielded ops a.tmps) = true then Oper.wp P o a w K Q else E := by
  have hw : Region.wanted o (yielded ops a.tmps) = true := by simp [Region.wanted, hgd]
  rw [if_pos hw]
  obtain ⟨b, h1, h2⟩ := h
  obtain ⟨v', w', b', hrun, h3, h4, h5⟩ := run_append_own2 (P := P) h1 t tx o.type e i z bytes ht hi hz hsize hby hzs hsz xv m news hs h63 hbytes
  have hk := fun j hj => run_append_keep (P := P) h1 t tx o.type e i z bytes ht hi hz hsize hby xv m news hs h63 hbytes hrun j hj
  obtain ⟨hl, A, c, rfl, hrest⟩ := h3
  unfold Oper.wp execOp
  simp only [ho, resolve, invoke, builtin, Sem.run_bind, Sem.run_pure, Result.andThen_ok, List.map_toArray, List.map_cons, List.map_nil, hv, hx, hrun]
  refine hK _ _ _ ⟨b', ⟨hl, A, c, rfl, hrest⟩, fun g hg' => ?_⟩ (below_grown hbl h4 h2) hk
  rcases h5 with hb | hb
  · exact h2 g (hb ▸ hg')
  · rw [hb] at hg'; cases hg'; exact hbl.size
/-- A store into one of its elements. -/
theorem Mine.store {A : Option Addr} {c : Nat} (h : Mine w0 w 1 (.slice A n c) n xs) {j : Nat} (hj : j < n) :
    ∃ g off, A = some ⟨g, off, none⟩ ∧ w0.heap.size ≤ g ∧ w.cell? ⟨g, off + j, none⟩ = xs[j]? ∧ w.frozen? ⟨g, off + j, none⟩ = false ∧ ∀ u, Mine w0 (w.setCell ⟨g, off + j, none⟩ u) 1 (.slice A n c) n (xs.set j u) := by
  obtain ⟨b, ⟨h0, A', c', heq, h1, h2, h3⟩, hb⟩ := h
  cases heq
  rcases h3 with ⟨_, h4⟩ | ⟨g, off, rfl, rfl, hg, h5, h6⟩
  · omega
  · obtain ⟨hs, hf⟩ := h5 j (by omega)
    refine ⟨g, off, rfl, hb g rfl, h6 j (by omega), hf, fun u => ⟨some g, ⟨by rw [List.length_set]; exact h0, _, _, rfl, h1, h2, .inr ⟨g, off, rfl, rfl, by simpa using hg, fun i hi => ⟨?_, ?_⟩, fun i hi => ?_⟩⟩, hb⟩⟩
    · by_cases e : i = j
      · subst e
        obtain ⟨x, hx⟩ := Option.isSome_iff_exists.1 hs
        rw [World.cell?_setCell_same' _ _ _ hs]; rfl
      · rw [World.cell?_setCell_other _ _ _ _ (by simp; omega)]; exact (h5 i hi).1
    · rw [World.frozen?_setCell]; exact (h5 i hi).2
    · by_cases e : i = j
      · subst e
        obtain ⟨x, hx⟩ := Option.isSome_iff_exists.1 hs
        rw [World.cell?_setCell_same' _ _ _ hs, List.getElem?_set_self (by omega)]
      · rw [World.cell?_setCell_other _ _ _ _ (by simp; omega), List.getElem?_set_ne (by omega)]; exact h6 i hi
end
end Go.Proofs.Ytilbhnloelgpdaa
