/- What calls leave as it is: how many accounts and goods there are. -/
import Derived.Test.YthhjockofihohaaLedH
namespace Go.Proofs.Ythhjockofihohaa
namespace Led
theorem act_same (x : Led) (a : LAct) : (x.act a).1.n = x.n ∧ (x.act a).1.goods = x.goods := by
  have := arnd_lt a.kind (below := 11) (by omega)
  unfold act
  generalize arnd a.kind 11 = k at this
  rcases (show k = 0 ∨ k = 1 ∨ k = 2 ∨ k = 3 ∨ k = 4 ∨ k = 5 ∨ k = 6 ∨ k = 7 ∨ k = 8 ∨ k = 9 ∨ k = 10 by omega) with rfl | rfl | rfl | rfl | rfl | rfl | rfl | rfl | rfl | rfl | rfl
  · show (x.pay a.who a.n).1.n = x.n ∧ (x.pay a.who a.n).1.goods = x.goods; unfold pay; split <;> (try split) <;> exact ⟨rfl, rfl⟩
  · show (x.take a.who a.n).1.n = x.n ∧ (x.take a.who a.n).1.goods = x.goods; unfold take; split <;> (try split) <;> exact ⟨rfl, rfl⟩
  · show (x.store a.who a.good a.n).1.n = x.n ∧ (x.store a.who a.good a.n).1.goods = x.goods; unfold store; split <;> (try split) <;> exact ⟨rfl, rfl⟩
  · show (x.fetch a.who a.good a.n).1.n = x.n ∧ (x.fetch a.who a.good a.n).1.goods = x.goods; unfold fetch; split <;> (try split) <;> exact ⟨rfl, rfl⟩
  · show (x.hold a.who a.n).1.n = x.n ∧ (x.hold a.who a.n).1.goods = x.goods; unfold hold; split <;> (try split) <;> exact ⟨rfl, rfl⟩
  · show (x.free a.who a.n).1.n = x.n ∧ (x.free a.who a.n).1.goods = x.goods; unfold free; split <;> (try split) <;> exact ⟨rfl, rfl⟩
  · show (x.lock a.who a.good a.n).1.n = x.n ∧ (x.lock a.who a.good a.n).1.goods = x.goods; unfold lock; split <;> (try split) <;> exact ⟨rfl, rfl⟩
  · show (x.unlock a.who a.good a.n).1.n = x.n ∧ (x.unlock a.who a.good a.n).1.goods = x.goods; unfold unlock; split <;> (try split) <;> exact ⟨rfl, rfl⟩
  · show (x.move a.who a.dst a.n).1.n = x.n ∧ (x.move a.who a.dst a.n).1.goods = x.goods; unfold move; split <;> (try split) <;> (try split) <;> exact ⟨rfl, rfl⟩
  · show (x.hand a.who a.dst a.good a.n).1.n = x.n ∧ (x.hand a.who a.dst a.good a.n).1.goods = x.goods; unfold hand; split <;> (try split) <;> (try split) <;> exact ⟨rfl, rfl⟩
  · show (x.mark a.who a.n a.text).1.n = x.n ∧ (x.mark a.who a.n a.text).1.goods = x.goods; unfold mark; split <;> (try split) <;> (try split) <;> exact ⟨rfl, rfl⟩
theorem acts_same (x : Led) (Z : Nat → LAct) (i : Nat) : (x.acts Z i).n = x.n ∧ (x.acts Z i).goods = x.goods := by
  induction i with
  | zero => exact ⟨rfl, rfl⟩
  | succ i ih =>
    have h := act_same (x.acts Z i) (Z i)
    exact ⟨h.1.trans ih.1, h.2.trans ih.2⟩
theorem three_acts (Z : Nat → LAct) (i : Nat) : (three.acts Z i).n = 3 ∧ (three.acts Z i).goods = 2 := acts_same three Z i
end Led
end Go.Proofs.Ythhjockofihohaa
