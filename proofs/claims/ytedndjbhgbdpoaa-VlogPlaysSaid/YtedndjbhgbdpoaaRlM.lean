/- The reference's log in memory; Within, here, Quorum. -/
import Derived.Test.YtedndjbhgbdpoaaRlP
import Derived.Test.YtedndjbhgbdpoaaVlE
import Derived.BigRegion
namespace Go.Proofs.Ytedndjbhgbdpoaa
open Go.RowKit
theorem takeH {P : Program} {ops : Array Oper} {Q : Exit → Act → World → Prop} {md : Region.Mode} {S : World → Prop} {i : Nat} {oi : Oper} {v : Value} {fuel : Nat} {listed : Array Bool} {a : Act} {w : World} (N : Option Tmp) (hi : ops[i]? = some oi) (hN : oi.dst = N)
    (hs : Region.noSelect ops = true) (hf : Region.free md ops listed i = true) (hr : (Region.ready md ops listed).contains i = true)
    (hQ : ∀ c a w, Q (.panic c) (a.put N v) w → Q (.panic c) a w) (hy : YieldsIf P ops S oi v a) (hS : S w)
    (h : wpAnyH P md ops Q S fuel (listed.setIfInBounds i true) (a.put N v) w) : wpAnyH P md ops Q S (fuel + 1) listed a w := by
  subst hN
  exact wpAnyH_take hi hs hf hr hQ hy hS h
theorem callH {P : Program} {ops : Array Oper} {Q : Exit → Act → World → Prop} {md : Region.Mode} {S : World → Prop} {i : Nat} {oi : Oper} {fuel : Nat} {listed : Array Bool} {a : Act} {w : World} (N : Option Tmp) (hr : Region.ready md ops listed = [i]) (hi : ops[i]? = some oi) (hN : oi.dst = N) (hw : Region.wanted oi (yielded ops a.tmps) = true)
    (h : ∀ K' : Act → World → Prop, Shut (∀ v w, S w → (S w → wpAnyH P md ops Q S fuel (listed.setIfInBounds i true) (a.put N v) w) → K' (a.put N v) w) → Oper.wp P oi a w K' Q) : wpAnyH P md ops Q S (fuel + 1) listed a w := by
  subst hN
  refine wpAnyH_ready hr (by simp) (AllReadyH.cons hi (fun K hK => ?_) AllReadyH.nil)
  rw [if_pos hw]
  exact h K fun v w hS hW => hK.out _ _ hS hW
def icell (x : It) : List Value := [.int .i64 x.kind, .int .i64 x.frm, .int .i64 x.view, .int .i64 x.seq, .string x.digest, .string x.batch, .int .i64 x.m.frm, .string x.m.body, .string x.m.sig]
def icells (L : List It) : List Value := L.flatMap icell
theorem icells_length (L : List It) : (icells L).length = L.length * 9 := by
  induction L with
  | nil => rfl
  | cons p l ih => unfold icells at *; rw [List.flatMap_cons, List.length_append, ih, List.length_cons]; simp [icell]; omega
theorem icells_append (L M : List It) : icells (L ++ M) = icells L ++ icells M := by unfold icells; rw [List.flatMap_append]
theorem icells_one : ∀ {L : List It}, ∀ u ∈ icells L, u.oneCell' = true := by
  intro L u hu
  unfold icells at hu
  obtain ⟨s, _, hs⟩ := List.mem_flatMap.1 hu
  unfold icell at hs
  simp only [List.mem_cons, List.not_mem_nil, or_false] at hs
  rcases hs with rfl | rfl | rfl | rfl | rfl | rfl | rfl | rfl | rfl <;> rfl
theorem icells_get (L : List It) {i j : Nat} (hi : i < L.length) (hj : j < 9) : (icells L).getD (i * 9 + j) (.bool false) = (icell (L.getD i It.none)).getD j (.bool false) := by
  induction L generalizing i with
  | nil => simp at hi
  | cons s L ih =>
    have e : icells (s :: L) = icell s ++ icells L := rfl
    rw [e]
    cases i with
    | zero =>
      simp only [List.getD_eq_getElem?_getD, Nat.zero_mul, Nat.zero_add]
      rw [List.getElem?_append_left (by simp [icell]; omega)]; rfl
    | succ i =>
      have := ih (i := i) (by simpa using hi)
      rw [show (i + 1) * 9 + j = (i * 9 + j) + 9 from by omega]
      simp only [List.getD_eq_getElem?_getD] at *
      rw [List.getElem?_append_right (by simp [icell])]
      simpa [icell] using this
/-- A row of items. -/
def IRow (w : World) (A : Option Addr) (L : List It) : Prop := Row w A (L.length * 9) fun j => (icells L).getD j (.bool false)
theorem IRow.below {w w' : World} {A : Option Addr} {L : List It} (h : IRow w A L) (hb : Below w.heap.size w w') : IRow w' A L := Row.below h hb
theorem IRow.cells {w : World} {A : Option Addr} {L : List It} (h : IRow w A L) {i : Nat} (hi : i < L.length) : ∃ b o, A = some ⟨b, o, none⟩ ∧ ∀ w', Below w.heap.size w w' → ∀ j, j < 9 → w'.cell? ⟨b, o + i * 9 + j, none⟩ = some ((icell (L.getD i It.none)).getD j (.bool false)) := by
  obtain ⟨b, o, e, _⟩ := Row.at_ h (k := i * 9) (by omega)
  refine ⟨b, o, e, fun w' hb j hj => ?_⟩
  obtain ⟨b', o', e', h1, h2⟩ := Row.at_ h (k := i * 9 + j) (by omega)
  rw [e] at e'; cases e'
  rw [← icells_get L hi hj, Nat.add_assoc]; exact (below_cell hb h1).trans h2
theorem IRow.src {w : World} {A : Option Addr} {L : List It} (h : IRow w A L) (c : Nat) : Src Try.prog 9 63 (.slice A L.length c) L.length (icells L) w := by
  rcases h with h | ⟨b, o, rfl, h2, h3⟩
  · have h0 : L.length = 0 := by omega
    have hL : L = [] := List.eq_nil_of_length_eq_zero h0
    subst hL
    cases A with
    | none => exact Src.ofNil _ Try.underlying63 c
    | some a => exact Src.ofSlice _ Try.underlying63 a 0 c [] rfl (fun j u hu => by simp at hu) (fun u hu => by simp at hu)
  · refine Src.ofSlice _ Try.underlying63 ⟨b, o, none⟩ L.length c (icells L) (icells_length L) (fun j u hu => ?_) icells_one
    have hj : j < L.length * 9 := by
      have := (List.getElem?_eq_some_iff.1 hu).1
      rwa [icells_length] at this
    rw [show (⟨b, o, none⟩ : Addr).add j = ⟨b, o + j, none⟩ from by simp [Addr.add_lit], h3 j hj]
    show some ((icells L).getD j _) = some u
    rw [List.getD_eq_getElem?_getD, hu]; rfl
theorem Mine.irow {w0 w : World} {A : Option Addr} {c m : Nat} {L : List It} (h : Mine w0 w 9 (.slice A m c) m (icells L)) (hm : L.length = m) : m ≤ c ∧ IRow w A L := by
  obtain ⟨A', c', e, h1, _, h3⟩ := h.row
  cases e
  refine ⟨h1, ?_⟩
  unfold IRow
  rw [hm]; exact h3
theorem info_item : (Try.prog.info? 106).map (fun i => (i.zero, i.size, i.bytes)) = some (some (.agg #[.int .i64 0, .int .i64 0, .int .i64 0, .int .i64 0, .string noText, .string noText, .int .i64 0, .string noText, .string noText]), 9, 104) := by kernel_rfl
section
variable (w : World) (n v lo : Int) (A B : Option Addr) (m cA k cB : Nat)
theorem rwithin_calls (seq : Int) (h0 : 0 ≤ lo) (h1 : lo ≤ 1073741824) :
    Calls Try.prog 51 #[.agg #[.int .i64 n, .int .i64 v, .int .i64 lo, .slice A m cA, .slice B k cB], .int .i64 seq] w fun e w' => e = .returned (.bool (decide (lo < seq ∧ seq ≤ lo + 8))) ∧ Below w.heap.size w w' := by
  have hb0 : Hid (Below w.heap.size w (w.alloc (.cells #[.int .i64 n, .int .i64 v, .int .i64 lo, .slice A m cA, .slice B k cB] 65))) := Lib.hid ((Below.refl _ _).alloc (Nat.le_refl _) _)
  obtain ⟨x, hx⟩ : ∃ x, Hid (decide (lo < seq ∧ seq ≤ lo + 8) = x) := ⟨_, Lib.hid rfl⟩
  rw [hx.out]
  by_cases a : lo < seq
  · by_cases b : seq ≤ lo + 8
    · have E : Hid (x = true) := Lib.hid (by rw [← hx.out]; exact decide_eq_true ⟨a, b⟩)
      go_enter Try.func51, Try.ntmps51
      go_wp2
      go_ret
      exact ⟨by rw [E.out]; rfl, hb0.out⟩
    · have E : Hid (x = false) := Lib.hid (by rw [← hx.out]; exact decide_eq_false fun hh => b hh.2)
      go_enter Try.func51, Try.ntmps51
      go_wp2
      go_ret
      exact ⟨by rw [E.out]; rfl, hb0.out⟩
  · have E : Hid (x = false) := Lib.hid (by rw [← hx.out]; exact decide_eq_false fun hh => a hh.1)
    go_enter Try.func51, Try.ntmps51
    go_wp2
    go_ret
    exact ⟨by rw [E.out]; rfl, hb0.out⟩
theorem rhere_calls (x : It) (kind seq : Int) :
    Calls Try.prog 58 #[.agg #[.int .i64 n, .int .i64 v, .int .i64 lo, .slice A m cA, .slice B k cB], .agg #[.int .i64 x.kind, .int .i64 x.frm, .int .i64 x.view, .int .i64 x.seq, .string x.digest, .string x.batch, .int .i64 x.m.frm, .string x.m.body, .string x.m.sig], .int .i64 kind, .int .i64 seq] w fun e w' => e = .returned (.bool (decide (x.kind = kind) && decide (x.view = v) && decide (x.seq = seq))) ∧ Below w.heap.size w w' := by
  have hb0 : Hid (Below w.heap.size w ((w.alloc (.cells #[.int .i64 n, .int .i64 v, .int .i64 lo, .slice A m cA, .slice B k cB] 65)).alloc (.cells #[.int .i64 x.kind, .int .i64 x.frm, .int .i64 x.view, .int .i64 x.seq, .string x.digest, .string x.batch, .int .i64 x.m.frm, .string x.m.body, .string x.m.sig] 106))) := Lib.hid (((Below.refl _ _).alloc (Nat.le_refl _) _).alloc (by simp) _)
  obtain ⟨z, hz⟩ : ∃ z, Hid ((decide (x.kind = kind) && decide (x.view = v) && decide (x.seq = seq)) = z) := ⟨_, Lib.hid rfl⟩
  rw [hz.out]
  obtain ⟨xk, xf, xv, xs, xd, xb, ⟨mf, mb, ms⟩⟩ := x
  simp only at hb0 hz ⊢
  by_cases a : xk = kind
  · by_cases b : xv = v
    · by_cases c : xs = seq
      · have E : Hid (z = true) := Lib.hid (by rw [← hz.out]; simp [a, b, c])
        subst a b c
        go_enter Try.func58, Try.ntmps58
        go_wp2
        go_ret
        exact ⟨by rw [E.out]; rfl, hb0.out⟩
      · have E : Hid (z = false) := Lib.hid (by rw [← hz.out]; simp [c])
        have c2 : (xs == seq) = false := by simpa using c
        subst a b
        go_enter Try.func58, Try.ntmps58
        go_wp2
        go_ret
        exact ⟨by rw [E.out]; rfl, hb0.out⟩
    · have E : Hid (z = false) := Lib.hid (by rw [← hz.out]; simp [b])
      have b2 : (xv == v) = false := by simpa using b
      subst a
      go_enter Try.func58, Try.ntmps58
      go_wp2
      go_ret
      exact ⟨by rw [E.out]; rfl, hb0.out⟩
  · have E : Hid (z = false) := Lib.hid (by rw [← hz.out]; simp [a])
    have a2 : (xk == kind) = false := by simpa using a
    go_enter Try.func58, Try.ntmps58
    go_wp2
    go_ret
    exact ⟨by rw [E.out]; rfl, hb0.out⟩
theorem rquorum_calls (hn : n = 4 ∨ n = 7 ∨ n = 10 ∨ n = 13) :
    Calls Try.prog 56 #[.agg #[.int .i64 n, .int .i64 v, .int .i64 lo, .slice A m cA, .slice B k cB]] w fun e w' => e = .returned (.int .i64 (n - (n - 1) / 3)) ∧ Below w.heap.size w w' := by
  have hb0 : ∀ n, Hid (Below w.heap.size w (w.alloc (.cells #[.int .i64 n, .int .i64 v, .int .i64 lo, .slice A m cA, .slice B k cB] 65))) := fun n => Lib.hid ((Below.refl _ _).alloc (Nat.le_refl _) _)
  have HB := Lib.hid hb0
  clear hb0
  rcases hn with rfl | rfl | rfl | rfl <;>
  · go_enter Try.func56, Try.ntmps56
    go_wp2
    go_ret
    exact ⟨rfl, (HB.out _).out⟩
end
end Go.Proofs.Ytedndjbhgbdpoaa
