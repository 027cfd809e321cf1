/- What holds of a ledger holds behind each call. -/
import Derived.Test.YthhjockofihohaaLed
namespace Go.Proofs.Ythhjockofihohaa
namespace Led
section
variable {x : Led}
theorem Ok.inc0 (h : x.Ok) {i : Nat} (hi : i < x.n) (d : Int) (h1 : x.z i 1 ≤ x.z i 0 + d) (h2 : x.tot 0 + d ≤ 1099511627776) : (x.inc i 0 d).Ok where
  len := h.len
  kinds := h.kinds
  cash j hj := by
    have := h.cash j hj
    rw [inc_at, inc_at, if_neg (by omega)]
    by_cases e : j = i
    · subst e; rw [if_pos ⟨rfl, rfl⟩]; omega
    · rw [if_neg (by omega)]; exact this
  good j g hj hg := by rw [inc_at, inc_at, if_neg (by omega), if_neg (by omega)]; exact h.good j g hj hg
  none_ j g hj hg hk := by rw [inc_at, if_neg (by omega)]; exact h.none_ j g hj hg hk
  stamp j hj := by rw [inc_at, if_neg (by omega)]; exact h.stamp j hj
  most := by rw [tot_inc x hi, if_pos rfl]; exact h2
  mosts g hg := by rw [tot_inc x hi, if_neg (by omega)]; exact h.mosts g hg
theorem Ok.inc1 (h : x.Ok) {i : Nat} (hi : i < x.n) (d : Int) (h1 : 0 ≤ x.z i 1 + d) (h2 : x.z i 1 + d ≤ x.z i 0) : (x.inc i 1 d).Ok where
  len := h.len
  kinds := h.kinds
  cash j hj := by
    have := h.cash j hj
    rw [inc_at, inc_at, if_neg (show ¬ (j = i ∧ 0 = 1) from by omega)]
    by_cases e : j = i
    · subst e; rw [if_pos ⟨rfl, rfl⟩]; omega
    · rw [if_neg (by omega)]; exact this
  good j g hj hg := by rw [inc_at, inc_at, if_neg (by omega), if_neg (by omega)]; exact h.good j g hj hg
  none_ j g hj hg hk := by rw [inc_at, if_neg (by omega)]; exact h.none_ j g hj hg hk
  stamp j hj := by rw [inc_at, if_neg (by omega)]; exact h.stamp j hj
  most := by rw [tot_inc x hi, if_neg (by omega)]; exact h.most
  mosts g hg := by rw [tot_inc x hi, if_neg (by omega)]; exact h.mosts g hg
theorem Ok.incg (h : x.Ok) {i : Nat} (hi : i < x.n) {q : Nat} (hq : q < 4) (hk : (q : Int) < x.goods) (d : Int) (h1 : x.z i (6 + q) ≤ x.z i (2 + q) + d) (h2 : x.tot (2 + q) + d ≤ 1099511627776) : (x.inc i (2 + q) d).Ok where
  len := h.len
  kinds := h.kinds
  cash j hj := by rw [inc_at, inc_at, if_neg (by omega), if_neg (by omega)]; exact h.cash j hj
  good j g hj hg := by
    have := h.good j g hj hg
    rw [inc_at, inc_at, if_neg (show ¬ (j = i ∧ 6 + g = 2 + q) from by omega)]
    by_cases e : j = i ∧ 2 + g = 2 + q
    · obtain ⟨rfl, e⟩ := e
      obtain rfl : g = q := by omega
      rw [if_pos ⟨rfl, rfl⟩]; omega
    · rw [if_neg e]; exact this
  none_ j g hj hg hk' := by
    have hk2 : x.goods ≤ (g : Int) := hk'
    rw [inc_at, if_neg (by omega)]; exact h.none_ j g hj hg hk2
  stamp j hj := by rw [inc_at, if_neg (by omega)]; exact h.stamp j hj
  most := by rw [tot_inc x hi, if_neg (by omega)]; exact h.most
  mosts g hg := by
    rw [tot_inc x hi]
    split
    · exact h2
    · exact h.mosts g hg
theorem Ok.incl (h : x.Ok) {i : Nat} (hi : i < x.n) {q : Nat} (hq : q < 4) (d : Int) (h1 : 0 ≤ x.z i (6 + q) + d) (h2 : x.z i (6 + q) + d ≤ x.z i (2 + q)) : (x.inc i (6 + q) d).Ok where
  len := h.len
  kinds := h.kinds
  cash j hj := by rw [inc_at, inc_at, if_neg (by omega), if_neg (by omega)]; exact h.cash j hj
  good j g hj hg := by
    have := h.good j g hj hg
    rw [inc_at, inc_at, if_neg (show ¬ (j = i ∧ 2 + g = 6 + q) from by omega)]
    by_cases e : j = i ∧ 6 + g = 6 + q
    · obtain ⟨rfl, e⟩ := e
      obtain rfl : g = q := by omega
      rw [if_pos ⟨rfl, rfl⟩]; omega
    · rw [if_neg e]; exact this
  none_ j g hj hg hk' := by rw [inc_at, if_neg (by omega)]; exact h.none_ j g hj hg hk'
  stamp j hj := by rw [inc_at, if_neg (by omega)]; exact h.stamp j hj
  most := by rw [tot_inc x hi, if_neg (by omega)]; exact h.most
  mosts g hg := by rw [tot_inc x hi, if_neg (by omega)]; exact h.mosts g hg
theorem Ok.stamped (h : x.Ok) {i : Nat} (s : Int) (h1 : 0 ≤ s) (h2 : s ≤ 1099511627776) (r : Nat → ByteArray) : ({ x.upd i 10 s with r := r } : Led).Ok where
  len := h.len
  kinds := h.kinds
  cash j hj := by
    show 0 ≤ (x.upd i 10 s).z j 1 ∧ (x.upd i 10 s).z j 1 ≤ (x.upd i 10 s).z j 0
    rw [upd_at, upd_at, if_neg (by omega), if_neg (by omega)]; exact h.cash j hj
  good j g hj hg := by
    show 0 ≤ (x.upd i 10 s).z j (6 + g) ∧ (x.upd i 10 s).z j (6 + g) ≤ (x.upd i 10 s).z j (2 + g)
    rw [upd_at, upd_at, if_neg (by omega), if_neg (by omega)]; exact h.good j g hj hg
  none_ j g hj hg hk' := by
    show (x.upd i 10 s).z j (2 + g) = 0
    rw [upd_at, if_neg (by omega)]; exact h.none_ j g hj hg hk'
  stamp j hj := by
    show 0 ≤ (x.upd i 10 s).z j 10 ∧ (x.upd i 10 s).z j 10 ≤ 1099511627776
    rw [upd_at]
    split
    · exact ⟨h1, h2⟩
    · exact h.stamp j hj
  most := by
    have : ({ x.upd i 10 s with r := r } : Led).tot 0 = x.tot 0 := sumTo_congr fun a _ => by show (x.upd i 10 s).z a 0 = _; rw [upd_at, if_neg (by omega)]
    rw [this]; exact h.most
  mosts g hg := by
    have : ({ x.upd i 10 s with r := r } : Led).tot (2 + g) = x.tot (2 + g) := sumTo_congr fun a _ => by show (x.upd i 10 s).z a (2 + g) = _; rw [upd_at, if_neg (by omega)]
    rw [this]; exact h.mosts g hg
end
end Led
end Go.Proofs.Ythhjockofihohaa
