/- Plain laws for LedgerPlays. -/
import Derived.Test.YthhjockofihohaaLike
import Derived.Test.YthhjockofihohaaTold
import Derived.Test.YthhjockofihohaaLedF2
import Derived.Test.YthhjockofihohaaLedG
import Derived.Test.YthhjockofihohaaLedH
namespace Go.Proofs.Ythhjockofihohaa
open Go.RowKit
/-- What is refused turns nothing. -/
theorem act_fail (x : Led) (a : LAct) : (x.act a).2 ≠ 0 → (x.act a).1 = x := by
  unfold Led.act
  split
  · unfold Led.pay; (repeat' split) <;> simp
  · unfold Led.take; (repeat' split) <;> simp
  · unfold Led.store; (repeat' split) <;> simp
  · unfold Led.fetch; (repeat' split) <;> simp
  · unfold Led.hold; (repeat' split) <;> simp
  · unfold Led.free; (repeat' split) <;> simp
  · unfold Led.lock; (repeat' split) <;> simp
  · unfold Led.unlock; (repeat' split) <;> simp
  · unfold Led.move; (repeat' split) <;> simp
  · unfold Led.hand; (repeat' split) <;> simp
  · unfold Led.mark; (repeat' split) <;> simp
theorem after_done {w w' : World} {g gl : Nat} {x y : Led} {A : Option Addr} {a : LAct} (h : AtL w g gl x) (h1 : AtL w' g gl (x.act a).1) (ho : Only (feetL gl) w w') (hR : RAt w A y)
    (hcase : (x.act a).2 = 0 → ∀ b o, A = some ⟨b, o, none⟩ → b ≠ gl) : RAt w' A y := by
  obtain ⟨b, o, rfl, hlt, hc⟩ := hR
  have hb : w'.heap[b]? = w.heap[b]? := by
    by_cases e : b = gl
    · subst e
      have hne : (x.act a).2 ≠ 0 := fun h0 => hcase h0 _ _ rfl rfl
      rw [act_fail x a hne] at h1
      exact h1.list.trans h.list.symm
    · exact ho.block b hlt e
  exact ⟨b, o, rfl, Nat.lt_of_lt_of_le hlt ho.size, fun j hj => by rw [World.cell?_of_block (a := ⟨b, o + j, none⟩) hb]; exact hc j hj⟩
theorem rel_fresh (n : Nat) (k : Int) : Led.Rel (Led.fresh n k) (Led.fresh n k) :=
  ⟨rfl, rfl, fun _ _ _ _ => by show (0 : Int) = 0 - 0; rfl, fun _ _ _ _ => rfl, fun _ _ => rfl, fun _ _ => rfl⟩
theorem act_goods' (x : Led) (a : LAct) : (x.act a).1.goods = x.goods := by
  unfold Led.act
  split
  · unfold Led.pay; (repeat' split) <;> rfl
  · unfold Led.take; (repeat' split) <;> rfl
  · unfold Led.store; (repeat' split) <;> rfl
  · unfold Led.fetch; (repeat' split) <;> rfl
  · unfold Led.hold; (repeat' split) <;> rfl
  · unfold Led.free; (repeat' split) <;> rfl
  · unfold Led.lock; (repeat' split) <;> rfl
  · unfold Led.unlock; (repeat' split) <;> rfl
  · unfold Led.move; (repeat' split) <;> rfl
  · unfold Led.hand; (repeat' split) <;> rfl
  · unfold Led.mark; (repeat' split) <;> rfl
/-- What the law holds of its two ledgers, with the box that keeps the second. -/
structure Both (w0 w : World) (g gl gb : Nat) (A : Option Addr) (c : Nat) (x y : Led) : Prop where
  led : Lw w0 w g gl x
  acc : RAt w A y
  rel : Led.Rel x y
  box : Blk w gb 44 #[.int .i64 y.goods, .slice A y.n c]
  away : gb ≠ g ∧ gb ≠ gl
  new : w0.heap.size ≤ gb
theorem Both.next {w0 w w' : World} {g gl gb : Nat} {A : Option Addr} {c : Nat} {x y : Led} (h : Both w0 w g gl gb A c x y) (hb : Below w.heap.size w w') : Both w0 w' g gl gb A c x y :=
  ⟨h.led.next hb, h.acc.below hb, h.rel, h.box.below hb h.box.lt, h.away, h.new⟩
theorem Both.turn {w0 w w1 w2 : World} {g gl gb : Nat} {A A' : Option Addr} {c c' : Nat} {x y : Led} {a : LAct} (h : Both w0 w g gl gb A c x y)
    (hb : Below w.heap.size w w1) (hR : RAt w1 A' (y.ract a).1) (hO : (y.ract a).2 = 0 → ∃ b o, A' = some ⟨b, o, none⟩ ∧ ROwn w w1 b o c' (y.ract a).1)
    (hA : AtL w2 g gl (x.act a).1) (ho : Only (feetL gl) w1 w2) :
    Both w0 ((w2.setCell ⟨gb, 0, none⟩ (.int .i64 y.goods)).setCell ⟨gb, 1, none⟩ (.slice A' (y.ract a).1.n c')) g gl gb A' c' (x.act a).1 (y.ract a).1 := by
  have hsame := Led.act_same_ref h.rel h.led.at_.ok a
  have h1 := (h.next hb)
  have hR2 : RAt w2 A' (y.ract a).1 := after_done h1.led.at_ hA ho hR (fun h0 b o e => by
    obtain ⟨b', o', e', hown⟩ := hO (by rw [hsame.1]; exact h0)
    rw [e'] at e
    cases e
    have := h.led.at_.list.lt
    have := hown.1
    omega)
  have hn : (y.ract a).1.n = y.n := ract_all_n y a
  have hg : (y.ract a).1.goods = y.goods := by rw [hsame.2.goods, h.rel.goods]; exact act_goods' x a
  have hbox : Blk w2 gb 44 #[.int .i64 y.goods, .slice A y.n c] := (ho.block gb h1.box.lt h.away.2).trans h1.box
  have hlen := (hsame.2.rok hA.ok).len.1
  have hoff := hR2.off2 hlen hbox
  refine ⟨⟨⟨(hA.head.far h.away.1.symm _).far h.away.1.symm _, (hA.list.far h.away.2.symm _).far h.away.2.symm _, hA.ne, hA.ok⟩, h.led.head, h.led.list, ?_⟩, hR2.off_ hoff _ _, hsame.2, ?_, h.away, h.new⟩
  · have hl := (h1.led.turn hA ho).all
    exact (hl.setCell h.new _).setCell h.new _
  · rw [hg]
    exact (hbox.set_ 0 _).set_ 1 _
end Go.Proofs.Ythhjockofihohaa
