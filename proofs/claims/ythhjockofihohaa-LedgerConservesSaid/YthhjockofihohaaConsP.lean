/- The plain law of LedgerConserves: a call that is refused changes nothing; Pay, Take, Store and Fetch make and take away just as much as they say; all else only moves. -/
import Derived.Test.YthhjockofihohaaLedP
namespace Go.Proofs.Ythhjockofihohaa
namespace Led
theorem pay_tot (x : Led) (who n : Int) : ((x.pay who n).2 ≠ 0 ∧ (x.pay who n).1 = x) ∨ ((x.pay who n).2 = 0 ∧ x.err who 0 n = 0 ∧ ∀ q, (x.pay who n).1.tot q = if q = 0 then x.tot 0 + n else x.tot q) := by
  by_cases h : x.err who 0 n ≠ 0
  · exact .inl (by unfold pay; rw [if_pos h]; exact ⟨h, rfl⟩)
  · have h' : x.err who 0 n = 0 := by omega
    obtain ⟨w0, w1, _⟩ := err_ok h'
    unfold pay; rw [if_neg h]
    split
    · exact .inl ⟨by show (62 : Int) ≠ 0; omega, rfl⟩
    · exact .inr ⟨rfl, h', fun q => tot_inc x (by omega) 0 n q⟩
theorem take_tot (x : Led) (who n : Int) : ((x.take who n).2 ≠ 0 ∧ (x.take who n).1 = x) ∨ ((x.take who n).2 = 0 ∧ x.err who 0 n = 0 ∧ ∀ q, (x.take who n).1.tot q = if q = 0 then x.tot 0 - n else x.tot q) := by
  by_cases h : x.err who 0 n ≠ 0
  · exact .inl (by unfold take; rw [if_pos h]; exact ⟨h, rfl⟩)
  · have h' : x.err who 0 n = 0 := by omega
    obtain ⟨w0, w1, _⟩ := err_ok h'
    unfold take; rw [if_neg h]
    split
    · exact .inl ⟨by show (61 : Int) ≠ 0; omega, rfl⟩
    · exact .inr ⟨rfl, h', fun q => tot_inc x (by omega) 0 (-n) q⟩
theorem store_tot (x : Led) (who good n : Int) : ((x.store who good n).2 ≠ 0 ∧ (x.store who good n).1 = x) ∨ ((x.store who good n).2 = 0 ∧ x.err who good n = 0 ∧ ∀ q, (x.store who good n).1.tot q = if q = 2 + good.toNat then x.tot (2 + good.toNat) + n else x.tot q) := by
  by_cases h : x.err who good n ≠ 0
  · exact .inl (by unfold store; rw [if_pos h]; exact ⟨h, rfl⟩)
  · have h' : x.err who good n = 0 := by omega
    obtain ⟨w0, w1, _⟩ := err_ok h'
    unfold store; rw [if_neg h]
    split
    · exact .inl ⟨by show (62 : Int) ≠ 0; omega, rfl⟩
    · exact .inr ⟨rfl, h', fun q => tot_inc x (by omega) _ n q⟩
theorem fetch_tot (x : Led) (who good n : Int) : ((x.fetch who good n).2 ≠ 0 ∧ (x.fetch who good n).1 = x) ∨ ((x.fetch who good n).2 = 0 ∧ x.err who good n = 0 ∧ ∀ q, (x.fetch who good n).1.tot q = if q = 2 + good.toNat then x.tot (2 + good.toNat) - n else x.tot q) := by
  by_cases h : x.err who good n ≠ 0
  · exact .inl (by unfold fetch; rw [if_pos h]; exact ⟨h, rfl⟩)
  · have h' : x.err who good n = 0 := by omega
    obtain ⟨w0, w1, _⟩ := err_ok h'
    unfold fetch; rw [if_neg h]
    split
    · exact .inl ⟨by show (61 : Int) ≠ 0; omega, rfl⟩
    · exact .inr ⟨rfl, h', fun q => tot_inc x (by omega) _ (-n) q⟩
/-- The parts of which there is a total that counts. -/
def part (q : Nat) : Prop := q = 0 ∨ (2 ≤ q ∧ q < 6)
theorem hold_tot (x : Led) (who n : Int) : ((x.hold who n).2 ≠ 0 → (x.hold who n).1 = x) ∧ ∀ q, part q → (x.hold who n).1.tot q = x.tot q := by
  by_cases h : x.err who 0 n ≠ 0
  · unfold hold; rw [if_pos h]; exact ⟨fun _ => rfl, fun _ _ => rfl⟩
  · have h' : x.err who 0 n = 0 := by omega
    obtain ⟨w0, w1, _⟩ := err_ok h'
    unfold hold; rw [if_neg h]
    split
    · exact ⟨fun _ => rfl, fun _ _ => rfl⟩
    · exact ⟨fun h => absurd rfl h, fun q hq => by show (x.inc _ 1 n).tot q = _; rw [tot_inc x (by omega), if_neg (by unfold part at hq; omega)]⟩
theorem free_tot (x : Led) (who n : Int) : ((x.free who n).2 ≠ 0 → (x.free who n).1 = x) ∧ ∀ q, part q → (x.free who n).1.tot q = x.tot q := by
  by_cases h : x.err who 0 n ≠ 0
  · unfold free; rw [if_pos h]; exact ⟨fun _ => rfl, fun _ _ => rfl⟩
  · have h' : x.err who 0 n = 0 := by omega
    obtain ⟨w0, w1, _⟩ := err_ok h'
    unfold free; rw [if_neg h]
    split
    · exact ⟨fun _ => rfl, fun _ _ => rfl⟩
    · exact ⟨fun h => absurd rfl h, fun q hq => by show (x.inc _ 1 (-n)).tot q = _; rw [tot_inc x (by omega), if_neg (by unfold part at hq; omega)]⟩
theorem lock_tot (x : Led) (who good n : Int) : ((x.lock who good n).2 ≠ 0 → (x.lock who good n).1 = x) ∧ ∀ q, part q → (x.lock who good n).1.tot q = x.tot q := by
  by_cases h : x.err who good n ≠ 0
  · unfold lock; rw [if_pos h]; exact ⟨fun _ => rfl, fun _ _ => rfl⟩
  · have h' : x.err who good n = 0 := by omega
    obtain ⟨w0, w1, _⟩ := err_ok h'
    unfold lock; rw [if_neg h]
    split
    · exact ⟨fun _ => rfl, fun _ _ => rfl⟩
    · exact ⟨fun h => absurd rfl h, fun q hq => by show (x.inc _ (6 + good.toNat) n).tot q = _; rw [tot_inc x (by omega), if_neg (by unfold part at hq; omega)]⟩
theorem unlock_tot (x : Led) (who good n : Int) : ((x.unlock who good n).2 ≠ 0 → (x.unlock who good n).1 = x) ∧ ∀ q, part q → (x.unlock who good n).1.tot q = x.tot q := by
  by_cases h : x.err who good n ≠ 0
  · unfold unlock; rw [if_pos h]; exact ⟨fun _ => rfl, fun _ _ => rfl⟩
  · have h' : x.err who good n = 0 := by omega
    obtain ⟨w0, w1, _⟩ := err_ok h'
    unfold unlock; rw [if_neg h]
    split
    · exact ⟨fun _ => rfl, fun _ _ => rfl⟩
    · exact ⟨fun h => absurd rfl h, fun q hq => by show (x.inc _ (6 + good.toNat) (-n)).tot q = _; rw [tot_inc x (by omega), if_neg (by unfold part at hq; omega)]⟩
theorem moved_tot (x : Led) {i j p h : Nat} (hi : i < x.n) (hj : j < x.n) (n : Int) (q : Nat) (hq : q ≠ h) : (((x.inc i h (-n)).inc i p (-n)).inc j p n).tot q = x.tot q := by
  rw [tot_inc _ (show j < ((x.inc i h (-n)).inc i p (-n)).n from hj), tot_inc _ (show i < (x.inc i h (-n)).n from hi), tot_inc _ (show i < (x.inc i h (-n)).n from hi), tot_inc x hi, tot_inc x hi]
  by_cases e : q = p
  · subst e; rw [if_pos rfl, if_pos rfl, if_neg hq]; omega
  · rw [if_neg e, if_neg e, if_neg hq]
theorem move_tot (x : Led) (src dst n : Int) : ((x.move src dst n).2 ≠ 0 → (x.move src dst n).1 = x) ∧ ∀ q, part q → (x.move src dst n).1.tot q = x.tot q := by
  by_cases hs : src < 0 ∨ x.n ≤ src
  · unfold move; rw [if_pos hs]; exact ⟨fun _ => rfl, fun _ _ => rfl⟩
  by_cases h : x.err dst 0 n ≠ 0
  · unfold move; rw [if_neg hs, if_pos h]; exact ⟨fun _ => rfl, fun _ _ => rfl⟩
  · have h' : x.err dst 0 n = 0 := by omega
    obtain ⟨w0, w1, _⟩ := err_ok h'
    unfold move; rw [if_neg hs, if_neg h]
    split
    · exact ⟨fun _ => rfl, fun _ _ => rfl⟩
    · exact ⟨fun h => absurd rfl h, fun q hq => moved_tot x (by omega) (by omega) n q (by unfold part at hq; omega)⟩
theorem hand_tot (x : Led) (src dst good n : Int) : ((x.hand src dst good n).2 ≠ 0 → (x.hand src dst good n).1 = x) ∧ ∀ q, part q → (x.hand src dst good n).1.tot q = x.tot q := by
  by_cases hs : src < 0 ∨ x.n ≤ src
  · unfold hand; rw [if_pos hs]; exact ⟨fun _ => rfl, fun _ _ => rfl⟩
  by_cases h : x.err dst good n ≠ 0
  · unfold hand; rw [if_neg hs, if_pos h]; exact ⟨fun _ => rfl, fun _ _ => rfl⟩
  · have h' : x.err dst good n = 0 := by omega
    obtain ⟨w0, w1, _⟩ := err_ok h'
    unfold hand; rw [if_neg hs, if_neg h]
    split
    · exact ⟨fun _ => rfl, fun _ _ => rfl⟩
    · exact ⟨fun h => absurd rfl h, fun q hq => moved_tot x (by omega) (by omega) n q (by unfold part at hq; omega)⟩
theorem mark_tot (x : Led) (who s : Int) (t : ByteArray) : ((x.mark who s t).2 ≠ 0 → (x.mark who s t).1 = x) ∧ ∀ q, part q → (x.mark who s t).1.tot q = x.tot q := by
  unfold mark
  split
  · exact ⟨fun _ => rfl, fun _ _ => rfl⟩
  split
  · exact ⟨fun _ => rfl, fun _ _ => rfl⟩
  split
  · exact ⟨fun _ => rfl, fun _ _ => rfl⟩
  · refine ⟨fun h => absurd rfl h, fun q hq => sumTo_congr fun a _ => ?_⟩
    show (x.upd who.toNat 10 s).z a q = x.z a q
    rw [upd_at, if_neg (by unfold part at hq; omega)]
theorem arnd_good {g : Int} (h0 : 0 ≤ g) (h4 : g < 4) : arnd g 4 = g.toNat := by
  rcases (show g = 0 ∨ g = 1 ∨ g = 2 ∨ g = 3 by omega) with rfl | rfl | rfl | rfl <;> decide
/-- What a call of kind k that was taken has made of the totals. -/
theorem act_tot (x : Led) (hx : x.goods ≤ 4) (a : LAct) :
    ((x.act a).2 ≠ 0 ∧ (x.act a).1 = x) ∨
    ((x.act a).2 = 0 ∧ arnd a.kind 11 = 0 ∧ (x.act a).1.tot 0 = x.tot 0 + a.n ∧ ∀ q, q < 4 → (x.act a).1.tot (2 + q) = x.tot (2 + q)) ∨
    ((x.act a).2 = 0 ∧ arnd a.kind 11 = 1 ∧ (x.act a).1.tot 0 = x.tot 0 - a.n ∧ ∀ q, q < 4 → (x.act a).1.tot (2 + q) = x.tot (2 + q)) ∨
    ((x.act a).2 = 0 ∧ arnd a.kind 11 = 2 ∧ 1 ≤ a.n ∧ a.n ≤ 1099511627776 ∧ (x.act a).1.tot 0 = x.tot 0 ∧ ∀ q, q < 4 → (x.act a).1.tot (2 + q) = if q = arnd a.good 4 then x.tot (2 + q) + a.n else x.tot (2 + q)) ∨
    ((x.act a).2 = 0 ∧ arnd a.kind 11 = 3 ∧ 1 ≤ a.n ∧ a.n ≤ 1099511627776 ∧ (x.act a).1.tot 0 = x.tot 0 ∧ ∀ q, q < 4 → (x.act a).1.tot (2 + q) = if q = arnd a.good 4 then x.tot (2 + q) - a.n else x.tot (2 + q)) ∨
    ((x.act a).2 = 0 ∧ 4 ≤ arnd a.kind 11 ∧ (x.act a).1.tot 0 = x.tot 0 ∧ ∀ q, q < 4 → (x.act a).1.tot (2 + q) = x.tot (2 + q)) := by
  have hk := arnd_lt a.kind (below := 11) (by omega)
  have rest : ∀ y : Led × Int, 4 ≤ arnd a.kind 11 → x.act a = y → ((y.2 ≠ 0 → y.1 = x) ∧ ∀ q, part q → y.1.tot q = x.tot q) → ((x.act a).2 ≠ 0 ∧ (x.act a).1 = x) ∨ ((x.act a).2 = 0 ∧ 4 ≤ arnd a.kind 11 ∧ (x.act a).1.tot 0 = x.tot 0 ∧ ∀ q, q < 4 → (x.act a).1.tot (2 + q) = x.tot (2 + q)) := fun y h4 e h => by
    rw [e]
    by_cases h0 : y.2 = 0
    · exact .inr ⟨h0, h4, h.2 0 (.inl rfl), fun q hq => h.2 _ (.inr (by omega))⟩
    · exact .inl ⟨h0, h.1 h0⟩
  rcases (show arnd a.kind 11 = 0 ∨ arnd a.kind 11 = 1 ∨ arnd a.kind 11 = 2 ∨ arnd a.kind 11 = 3 ∨ arnd a.kind 11 = 4 ∨ arnd a.kind 11 = 5 ∨ arnd a.kind 11 = 6 ∨ arnd a.kind 11 = 7 ∨ arnd a.kind 11 = 8 ∨ arnd a.kind 11 = 9 ∨ arnd a.kind 11 = 10 by omega) with e | e | e | e | e | e | e | e | e | e | e
  · have E : x.act a = x.pay a.who a.n := by unfold act; rw [e]; rfl
    rw [E]
    rcases pay_tot x a.who a.n with h | ⟨h1, h2, h3⟩
    · exact .inl h
    · exact .inr (.inl ⟨h1, e, by rw [h3, if_pos rfl], fun q _ => by rw [h3, if_neg (by omega)]⟩)
  · have E : x.act a = x.take a.who a.n := by unfold act; rw [e]; rfl
    rw [E]
    rcases take_tot x a.who a.n with h | ⟨h1, h2, h3⟩
    · exact .inl h
    · exact .inr (.inr (.inl ⟨h1, e, by rw [h3, if_pos rfl], fun q _ => by rw [h3, if_neg (by omega)]⟩))
  · have E : x.act a = x.store a.who a.good a.n := by unfold act; rw [e]; rfl
    rw [E]
    rcases store_tot x a.who a.good a.n with h | ⟨h1, h2, h3⟩
    · exact .inl h
    · obtain ⟨_, _, g0, g1, n0, n1⟩ := err_ok h2
      rw [arnd_good g0 (by omega)]
      refine .inr (.inr (.inr (.inl ⟨h1, e, n0, n1, by rw [h3, if_neg (by omega)], fun q _ => ?_⟩)))
      rw [h3]
      by_cases hq : q = a.good.toNat
      · subst hq; rw [if_pos rfl, if_pos rfl]
      · rw [if_neg (by omega), if_neg hq]
  · have E : x.act a = x.fetch a.who a.good a.n := by unfold act; rw [e]; rfl
    rw [E]
    rcases fetch_tot x a.who a.good a.n with h | ⟨h1, h2, h3⟩
    · exact .inl h
    · obtain ⟨_, _, g0, g1, n0, n1⟩ := err_ok h2
      rw [arnd_good g0 (by omega)]
      refine .inr (.inr (.inr (.inr (.inl ⟨h1, e, n0, n1, by rw [h3, if_neg (by omega)], fun q _ => ?_⟩))))
      rw [h3]
      by_cases hq : q = a.good.toNat
      · subst hq; rw [if_pos rfl, if_pos rfl]
      · rw [if_neg (by omega), if_neg hq]
  · exact (rest _ (by omega) (by unfold act; rw [e]; rfl) (hold_tot x a.who a.n)).elim .inl fun h => .inr (.inr (.inr (.inr (.inr h))))
  · exact (rest _ (by omega) (by unfold act; rw [e]; rfl) (free_tot x a.who a.n)).elim .inl fun h => .inr (.inr (.inr (.inr (.inr h))))
  · exact (rest _ (by omega) (by unfold act; rw [e]; rfl) (lock_tot x a.who a.good a.n)).elim .inl fun h => .inr (.inr (.inr (.inr (.inr h))))
  · exact (rest _ (by omega) (by unfold act; rw [e]; rfl) (unlock_tot x a.who a.good a.n)).elim .inl fun h => .inr (.inr (.inr (.inr (.inr h))))
  · exact (rest _ (by omega) (by unfold act; rw [e]; rfl) (move_tot x a.who a.dst a.n)).elim .inl fun h => .inr (.inr (.inr (.inr (.inr h))))
  · exact (rest _ (by omega) (by unfold act; rw [e]; rfl) (hand_tot x a.who a.dst a.good a.n)).elim .inl fun h => .inr (.inr (.inr (.inr (.inr h))))
  · exact (rest _ (by omega) (by unfold act; rw [e]; rfl) (mark_tot x a.who a.n a.text)).elim .inl fun h => .inr (.inr (.inr (.inr (.inr h))))
end Led
end Go.Proofs.Ythhjockofihohaa
