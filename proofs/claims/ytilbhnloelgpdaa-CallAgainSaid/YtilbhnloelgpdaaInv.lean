/- A region that draws its order, run by an invariant over what has been done: each operation is met once. -/
import Derived.RegionTactic
import Derived.Laws.Rows
import Derived.Laws.Tables
namespace Go.Proofs.Ytilbhnloelgpdaa
open Go

section
variable {P : Program} {ops : Array Oper} {Q : Exit → Act → World → Prop} {md : Region.Mode}
theorem count_set_lt (l : List Bool) (i : Nat) (h : l[i]? = some false) : (l.set i true).count false + 1 = l.count false := by
  induction l generalizing i with
  | nil => simp at h
  | cons x l ih =>
    cases i with
    | zero =>
      simp at h; subst h; simp
    | succ i =>
      simp at h
      have := ih i h
      rw [List.set_cons_succ, List.count_cons, List.count_cons]; omega
/-- The law: I says what holds when the operations of d are done. -/
theorem wpAny_inv (I : (Nat → Bool) → Act → World → Prop)
    (step : ∀ i o d a w, ops[i]? = some o → d i = false → (∀ e ∈ o.after, Region.binds md e = true → d e.on = true) → I d a w →
      ∀ K : Act → World → Prop, (∀ a w, I (fun j => if j = i then true else d j) a w → K a w) → if Region.wanted o (yielded ops a.tmps) = true then Oper.wp P o a w K Q else K (a.put o.dst undef) w)
    (done : ∀ d a w, (∀ i o, ops[i]? = some o → (∀ e ∈ o.after, Region.binds md e = true → d e.on = true) → d i = true) → I d a w → Q .normal a w) :
    ∀ (fuel : Nat) (listed : Array Bool) (a : Act) (w : World), listed.size = ops.size → listed.toList.count false ≤ fuel → I (fun j => listed.getD j false) a w → wpAny P md ops Q fuel listed a w := by
  have fin : ∀ (listed : Array Bool) (a : Act) (w : World), listed.size = ops.size → Region.ready md ops listed = [] → I (fun j => listed.getD j false) a w → Q .normal a w := by
    intro listed a w hs hr hI
    refine done _ a w (fun i o ho haf => ?_) hI
    have hlt : i < listed.size := by rw [hs]; exact (Array.getElem?_eq_some_iff.1 ho).1
    cases hb : listed.getD i false with
    | true => rfl
    | false =>
      exfalso
      have : i ∈ Region.ready md ops listed := by
        rw [mem_ready]
        refine ⟨?_, o, ho, haf⟩
        rw [← hb]
        simp [Array.getD, hlt]
      rw [hr] at this; cases this
  intro fuel
  induction fuel with
  | zero =>
    intro listed a w hs hc hI
    have hr : Region.ready md ops listed = [] := by
      refine List.eq_nil_iff_forall_not_mem.2 fun i hi => ?_
      obtain ⟨h1, o, ho, _⟩ := mem_ready.1 hi
      have hlt : i < listed.size := by rw [hs]; exact (Array.getElem?_eq_some_iff.1 ho).1
      have : false ∈ listed.toList := by
        rw [← h1, Array.getD, dif_pos hlt]; simp
      have := List.count_pos_iff.2 this
      omega
    exact ⟨hr, fin _ _ _ hs hr hI⟩
  | succ fuel ih =>
    intro listed a w hs hc hI
    refine ⟨fun hr => fin _ _ _ hs hr hI, fun i hi => ?_⟩
    obtain ⟨h1, o, ho, haf⟩ := mem_ready.1 hi
    have hlt : i < listed.size := by rw [hs]; exact (Array.getElem?_eq_some_iff.1 ho).1
    have h1' : listed[i]? = some false := by
      rw [Array.getElem?_eq_getElem hlt, ← h1, Array.getD, dif_pos hlt]; rfl
    refine wpOp_step ho fun K' hK => step i o _ a w ho (by simp [h1']) haf hI K' fun a' w' hI' => hK a' w' (ih _ a' w' (by simpa using hs) ?_ ?_)
    · have := count_set_lt listed.toList i (by simpa using h1')
      rw [Array.toList_setIfInBounds]; omega
    · have e : (fun j => (listed.setIfInBounds i true).getD j false) = fun j => if j = i then true else listed.getD j false := by
        funext j
        by_cases hj : j = i
        · subst hj; simp [hlt]
        · simp [hj, Ne.symm hj]
      rw [e]; exact hI'
/-- A region that draws, by the invariant. -/
theorem wp_region_inv {id : Nat} {a : Act} {w : World} (hm : P.follows .mixedOrders = true) (I : (Nat → Bool) → Act → World → Prop)
    (start : I (fun _ => false) a w.drew)
    (step : ∀ i o d a w, ops[i]? = some o → d i = false → (∀ e ∈ o.after, Region.binds .any e = true → d e.on = true) → I d a w →
      ∀ K : Act → World → Prop, (∀ a w, I (fun j => if j = i then true else d j) a w → K a w) → if Region.wanted o (yielded ops a.tmps) = true then Oper.wp P o a w K Q else K (a.put o.dst undef) w)
    (done : ∀ d a w, (∀ i o, ops[i]? = some o → (∀ e ∈ o.after, Region.binds .any e = true → d e.on = true) → d i = true) → I d a w → Q .normal a w) :
    (Code.region id ops true).wp P Q a w := by
  refine wp_region_any hm (wpAny_inv I step done _ _ _ _ (by simp) (by simp) ?_)
  have : (fun j => (Array.replicate ops.size false).getD j false) = fun _ => false := by
    funext j
    simp [Array.getD]
  rw [this]; exact start
theorem put_same (a : Act) (d : Nat) (v u : Value) : (a.put (some d) v).put (some d) u = a.put (some d) u := by simp [Act.put]
theorem put_to (a : Act) {x y : Nat} (h : x ≠ y) (v u : Value) : (a.put (some x) v).put (some y) u = (a.put (some y) u).put (some x) v :=
  Act.put_comm a v u fun d hd hy => h (by rw [Option.some.inj hd, Option.some.inj hy])
theorem put_self (a : Act) (d : Nat) : a.put (some d) (a.eval (.tmp d)) = a := by
  have : a.tmps.setIfInBounds d (a.tmps.getD d undef) = a.tmps := by
    apply Array.ext_getElem?
    intro i
    rw [Array.getElem?_setIfInBounds]
    by_cases h : d = i
    · subst h
      by_cases hlt : d < a.tmps.size
      · simp [hlt, Array.getD]
      · simp [hlt]
    · simp [h]
  show ({ a with tmps := _ } : Act) = a
  cases a
  simpa [Act.eval] using this
theorem eval_ne (a : Act) {d j : Nat} (h : d ≠ j) (v : Value) : (a.put (some d) v).eval (.tmp j) = a.eval (.tmp j) := Act.eval_put fun d' hd hx => h (by cases hd; cases hx; rfl)
theorem wp_alloc_new {o : Oper} {a : Act} {w : World} {K : Act → World → Prop} (t : TypeId) (ho : o.op = .alloc t) (i : TypeInfo) (z : Value) (hi : P.info? t = some i) (hz : i.zero = some z)
    (h : K (a.put o.dst (.pointer (some ⟨w.heap.size, 0, none⟩))) (w.alloc (.cells z.cells t))) : o.wp P a w K Q := by
  unfold Oper.wp
  have hr : Sem.run P (zeroValue t) w = .ok z w := by simp [zeroValue, typeInfo, hi, hz]
  simp [execOp, ho, go_sem, hr]
  exact h
theorem wp_alloc_agg {o : Oper} {a : Act} {w : World} {K : Act → World → Prop} (t : TypeId) (ho : o.op = .alloc t) (cs : Array Value) (hi : (P.info? t).map (·.zero) = some (some (.agg cs)))
    (h : K (a.put o.dst (.pointer (some ⟨w.heap.size, 0, none⟩))) (w.alloc (.cells cs t))) : o.wp P a w K Q := by
  cases hx : P.info? t with
  | none => rw [hx] at hi; cases hi
  | some i =>
    rw [hx] at hi
    exact wp_alloc_new t ho i (.agg cs) hx (Option.some.inj hi) h
theorem put_size (a : Act) (d : Option Tmp) (v : Value) : (a.put d v).tmps.size = a.tmps.size := by cases d <;> simp [Act.put]
theorem eval_last (a : Act) (d : Nat) (v : Value) (h : d < a.tmps.size) : (a.put (some d) v).eval (.tmp d) = v := by simp [Act.put, Act.eval, Array.getD, h]
theorem wp_call_fun {o : Oper} {a : Act} {w : World} {K : Act → World → Prop} (f : FuncId) (args : Array Operand) (ts : Array TypeId) (ho : o.op = .call { callee := .value (.func f), args := args, argTypes := ts })
    (hf : (P.funcs[f]?).map (fun fn => (fn.name == "runtime.NumGoroutine", fn.body.isSome)) = some (false, true))
    (vs : Array Value) (hvs : args.map a.eval = vs) (h : Calls P f vs w fun e w' => ∃ v, e = .returned v ∧ K (a.put o.dst v) w') : o.wp P a w K Q := by
  subst hvs
  unfold Oper.wp
  have hr : (execOp a.eval o).run P w = .ok (.enter f (args.map a.eval)) w := by
    cases hp : P.funcs[f]? with
    | none => rw [hp] at hf; cases hf
    | some fn =>
      rw [hp] at hf
      have h1 := congrArg Prod.fst (Option.some.inj hf)
      have h2 := congrArg Prod.snd (Option.some.inj hf)
      obtain ⟨c, hc⟩ := Option.isSome_iff_exists.1 h2
      have h1' : fn.name ≠ "runtime.NumGoroutine" := by simpa using h1
      have : (callFunc f (args.map a.eval)).run P w = .ok (.enter f (args.map a.eval)) w := by simp [callFunc, hp, h1', hc]
      simp [execOp, ho, resolve, go_sem, this]
  rw [hr, Oper.upon_enter]
  refine h.mono ?_
  rintro e w' ⟨v, rfl, hK⟩
  exact hK
/-- Operation i waits for operation j. -/
def edge (ops : Array Oper) (i j : Nat) : Bool := ((ops[i]?).map fun o => o.after.any fun e => Region.binds .any e && e.on == j).getD false
theorem edge_on {i j : Nat} (h : edge ops i j = true) {o : Oper} (ho : ops[i]? = some o) {d : Nat → Bool} (haf : ∀ e ∈ o.after, Region.binds .any e = true → d e.on = true) : d j = true := by
  unfold edge at h
  rw [ho] at h
  simp only [Option.map_some, Option.getD_some, Array.any_eq_true'] at h
  obtain ⟨e, he, h2⟩ := h
  simp only [Bool.and_eq_true, beq_iff_eq] at h2
  rw [← h2.2]; exact haf e he h2.1
/-- Each operation waits only for ones ahead of it. -/
def backward (ops : Array Oper) : Bool := (List.range ops.size).all fun i => ((ops[i]?).map fun o => o.after.all fun e => !Region.binds .any e || decide (e.on < i)).getD true
theorem all_done (h : backward ops = true) {d : Nat → Bool} (hd : ∀ i o, ops[i]? = some o → (∀ e ∈ o.after, Region.binds .any e = true → d e.on = true) → d i = true) : ∀ n i, i < n → i < ops.size → d i = true := by
  intro n
  induction n with
  | zero => intro i hi; omega
  | succ n ih =>
    intro i hi hs
    refine hd i ops[i] (by simp [hs]) fun e he hb => ih _ ?_ ?_
    all_goals
      unfold backward at h
      rw [List.all_eq_true] at h
      have := h i (List.mem_range.2 hs)
      rw [Array.getElem?_eq_getElem hs] at this
      simp only [Option.map_some, Option.getD_some, Array.all_eq_true_iff_forall_mem] at this
      have := this e he
      simp [hb] at this
      omega
/-- What an operation is, without what it waits for. -/
def bare (ops : Array Oper) (i : Nat) : Option (Op × Option Tmp × Option (Nat × Bool)) := (ops[i]?).map fun o => (o.op, o.dst, o.guard)
theorem bare_out {i : Nat} {o : Oper} (ho : ops[i]? = some o) {op : Op} {dst : Option Tmp} (h : bare ops i = some (op, dst, none)) {K : Act → World → Prop} {a : Act} {w : World}
    (hh : o.op = op → o.dst = dst → Oper.wp P o a w K Q) : if Region.wanted o (yielded ops a.tmps) = true then Oper.wp P o a w K Q else K (a.put o.dst undef) w := by
  unfold bare at h
  rw [ho] at h
  have h1 := Option.some.inj h
  have hg : o.guard = none := congrArg (fun x => x.2.2) h1
  rw [if_pos (by simp [Region.wanted, hg])]
  exact hh (congrArg (fun x => x.1) h1) (congrArg (fun x => x.2.1) h1)
end
end Go.Proofs.Ytilbhnloelgpdaa
