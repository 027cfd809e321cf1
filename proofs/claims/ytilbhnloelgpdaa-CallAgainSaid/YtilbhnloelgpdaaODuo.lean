/- Two rows of the walk's own, of elements of whatever sizes, that lie apart: an append to either leaves the other. -/
import Derived.Test.YtilbhnloelgpdaaSStable
import Derived.Deep.CutRange
import Derived.Deep.DeepMust
namespace Go.Proofs.Ytilbhnloelgpdaa
open Go.RowKit
def Duo (s1 s2 : Nat) (w0 w : World) (v1 : Value) (n1 : Nat) (xs1 : List Value) (v2 : Value) (n2 : Nat) (xs2 : List Value) : Prop :=
  ∃ b1 b2, Own w s1 v1 b1 n1 xs1 ∧ Own w s2 v2 b2 n2 xs2 ∧ (∀ g, b1 = some g → w0.heap.size ≤ g) ∧ (∀ g, b2 = some g → w0.heap.size ≤ g) ∧ ∀ g, b1 = some g → b2 ≠ some g
section
variable {s1 s2 : Nat} {w0 w w' : World} {v1 v2 : Value} {n1 n2 : Nat} {xs1 xs2 : List Value}
theorem Duo.swap (h : Duo s1 s2 w0 w v1 n1 xs1 v2 n2 xs2) : Duo s2 s1 w0 w v2 n2 xs2 v1 n1 xs1 := by
  obtain ⟨b1, b2, h1, h2, h3, h4, h5⟩ := h
  exact ⟨b2, b1, h2, h1, h4, h3, fun g hg hh => h5 g hh hg⟩
theorem Duo.below (h : Duo s1 s2 w0 w v1 n1 xs1 v2 n2 xs2) (hb : Below w.heap.size w w') : Duo s1 s2 w0 w' v1 n1 xs1 v2 n2 xs2 := by
  obtain ⟨b1, b2, h1, h2, h3, h4, h5⟩ := h
  exact ⟨b1, b2, h1.below hb, h2.below hb, h3, h4, h5⟩
theorem Duo.alloc (h : Duo s1 s2 w0 w v1 n1 xs1 v2 n2 xs2) (o : Obj) : Duo s1 s2 w0 (w.alloc o) v1 n1 xs1 v2 n2 xs2 := h.below ((Below.refl _ _).alloc (Nat.le_refl _) o)
theorem Duo.drew (h : Duo s1 s2 w0 w v1 n1 xs1 v2 n2 xs2) : Duo s1 s2 w0 w.drew v1 n1 xs1 v2 n2 xs2 := h.below (Below.refl _ _).drew
theorem Duo.fst (h : Duo s1 s2 w0 w v1 n1 xs1 v2 n2 xs2) : Mine w0 w s1 v1 n1 xs1 := by
  obtain ⟨b1, b2, h1, h2, h3, h4, h5⟩ := h
  exact ⟨b1, h1, h3⟩
theorem Duo.snd (h : Duo s1 s2 w0 w v1 n1 xs1 v2 n2 xs2) : Mine w0 w s2 v2 n2 xs2 := h.swap.fst
theorem Duo.empty (w0 w : World) (A B : Option Addr) : Duo s1 s2 w0 w (.slice A 0 0) 0 [] (.slice B 0 0) 0 [] :=
  ⟨none, none, ⟨by simp, A, 0, rfl, Nat.le_refl _, Nat.zero_le _, .inl ⟨rfl, rfl⟩⟩, ⟨by simp, B, 0, rfl, Nat.le_refl _, Nat.zero_le _, .inl ⟨rfl, rfl⟩⟩, nofun, nofun, nofun⟩
/-- A row of its own, and one that was made behind it. -/
theorem Duo.of {w1 : World} (h1 : Mine w0 w1 s1 v1 n1 xs1) (h01 : w0.heap.size ≤ w1.heap.size) (hb : Below w1.heap.size w1 w) (h2 : Mine w1 w s2 v2 n2 xs2) : Duo s1 s2 w0 w v1 n1 xs1 v2 n2 xs2 := by
  obtain ⟨b1, o1, q1⟩ := h1
  obtain ⟨b2, o2, q2⟩ := h2
  refine ⟨b1, b2, o1.below hb, o2, q1, fun g hg => Nat.le_trans h01 (q2 g hg), fun g hg hh => ?_⟩
  have := o1.lt hg
  have := q2 g hh
  omega
theorem Duo.grow1 (h0 : w0.heap.size ≤ w.heap.size) {m : Nat} {news : List Value} {v' : Value} {b1 b2 b' : Option Nat} (h2 : Own w s2 v2 b2 n2 xs2) (h3 : ∀ g, b1 = some g → w0.heap.size ≤ g) (h4 : ∀ g, b2 = some g → w0.heap.size ≤ g) (h5 : ∀ g, b1 = some g → b2 ≠ some g)
    (ho : Own w' s1 v' b' (n1 + m) (xs1 ++ news)) (hg : w.grownBy w' b1) (hb : b' = b1 ∨ b' = some w.heap.size) : Duo s1 s2 w0 w' v' (n1 + m) (xs1 ++ news) v2 n2 xs2 := by
  refine ⟨b', b2, ho, h2.grown hg fun g hg2 hh => h5 g hh hg2, fun g hg' => ?_, h4, fun g hg' hh => ?_⟩
  · rcases hb with hb | hb
    · exact h3 g (hb ▸ hg')
    · rw [hb] at hg'; cases hg'; exact h0
  · rcases hb with hb | hb
    · exact h5 g (hb ▸ hg') hh
    · rw [hb] at hg'; cases hg'
      have := h2.lt hh
      omega
theorem wpList_append_duo {P : Program} {ops : Array Oper} {rest : List Oper} {o : Oper} {a : Act} {Q : Exit → Act → World → Prop} (hgd : o.guard = none) (s x : Operand) (t tx : TypeId)
    (ho : o.op = .call { callee := .builtin .append, args := #[s, x], argTypes := #[t, tx] })
    (e : TypeId) (i : TypeInfo) (z : Value) (bytes : Nat) (ht : P.underlying t = some (.slice e)) (hi : P.info? e = some i) (hz : i.zero = some z) (hsize : i.size = s1) (hby : i.bytes = bytes) (hzs : z.cells.size = s1) (hsz : 0 < s1)
    (hv : a.eval s = v1) (h : Duo s1 s2 w0 w v1 n1 xs1 v2 n2 xs2) (hbl : Below w0.heap.size w0 w) (xv : Value) (m : Nat) (news : List Value) (hx : a.eval x = xv) (hs : Src P s1 tx xv m news w) (h63 : n1 + m ≤ maxLen) (hbytes : (n1 + m) * bytes ≤ 140737488355328)
    (hK : ∀ A c w', Duo s1 s2 w0 w' (.slice A (n1 + m) c) (n1 + m) (xs1 ++ news) v2 n2 xs2 → Below w0.heap.size w0 w' → wpList P ops Q rest (a.put o.dst (.slice A (n1 + m) c)) w') : wpList P ops Q (o :: rest) a w := by
  obtain ⟨b1, b2, h1, h2, h3, h4, h5⟩ := id h
  exact wpList_append_own2 hgd s x t tx ho e i z bytes ht hi hz hsize hby hzs hsz hv h1 xv m news hx hs h63 hbytes fun A c w' b' hown hg hb => hK A c w' (Duo.grow1 hbl.size h2 h3 h4 h5 hown hg hb) (below_grown hbl hg h3)
theorem step_append_duo {P : Program} {ops : Array Oper} {o : Oper} {a : Act} {K : Act → World → Prop} {Q : Exit → Act → World → Prop} {E : Prop} (hgd : o.guard = none) (s x : Operand) (t tx : TypeId)
    (ho : o.op = .call { callee := .builtin .append, args := #[s, x], argTypes := #[t, tx] })
    (e : TypeId) (i : TypeInfo) (z : Value) (bytes : Nat) (ht : P.underlying t = some (.slice e)) (hi : P.info? e = some i) (hz : i.zero = some z) (hsize : i.size = s1) (hby : i.bytes = bytes) (hzs : z.cells.size = s1) (hsz : 0 < s1)
    (hv : a.eval s = v1) (h : Duo s1 s2 w0 w v1 n1 xs1 v2 n2 xs2) (hbl : Below w0.heap.size w0 w) (xv : Value) (m : Nat) (news : List Value) (hx : a.eval x = xv) (hs : Src P s1 tx xv m news w) (h63 : n1 + m ≤ maxLen) (hbytes : (n1 + m) * bytes ≤ 140737488355328)
    (hK : ∀ A c w', Duo s1 s2 w0 w' (.slice A (n1 + m) c) (n1 + m) (xs1 ++ news) v2 n2 xs2 → Below w0.heap.size w0 w' → K (a.put o.dst (.slice A (n1 + m) c)) w') :
    if Region.wanted o (yielded ops a.tmps) = true then Oper.wp P o a w K Q else E := by
  have hw : Region.wanted o (yielded ops a.tmps) = true := by simp [Region.wanted, hgd]
  rw [if_pos hw]
  obtain ⟨b1, b2, h1, h2, h3, h4, h5⟩ := id h
  obtain ⟨v', w', b', hrun, hown, hg, hb⟩ := run_append_own2 (P := P) h1 t tx o.type e i z bytes ht hi hz hsize hby hzs hsz xv m news hs h63 hbytes
  obtain ⟨hl, A, c, rfl, hrest⟩ := id hown
  unfold Oper.wp execOp
  simp only [ho, resolve, invoke, builtin, Sem.run_bind, Sem.run_pure, Result.andThen_ok, List.map_toArray, List.map_cons, List.map_nil, hv, hx, hrun]
  exact hK _ _ _ (Duo.grow1 hbl.size h2 h3 h4 h5 hown hg hb) (below_grown hbl hg h3)
end
end Go.Proofs.Ytilbhnloelgpdaa
