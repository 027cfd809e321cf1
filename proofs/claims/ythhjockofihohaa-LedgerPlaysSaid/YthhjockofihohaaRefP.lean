/- The reference's ledger in plain Lean (free and kept by parts), and that it tells what the program's does. -/
import Derived.Test.YthhjockofihohaaLedH
namespace Go.Proofs.Ythhjockofihohaa
namespace Led
def rtot (y : Led) (p : Nat) : Int := sumTo (fun i => y.z i p + y.z i (5 + p)) y.n
def rerr (y : Led) (who part n : Int) : Int := if who < 0 ∨ y.n ≤ who then 60 else if part < 0 ∨ y.goods < part ∨ n < 1 ∨ 1099511627776 < n then 1 else 0
def rin (y : Led) (who part n : Int) : Led × Int := if y.rerr who part n ≠ 0 then (y, y.rerr who part n) else if 1099511627776 - n < y.rtot part.toNat then (y, 62) else (y.inc who.toNat part.toNat n, 0)
def rout (y : Led) (who part n : Int) : Led × Int := if y.rerr who part n ≠ 0 then (y, y.rerr who part n) else if y.z who.toNat part.toNat < n then (y, 61) else (y.inc who.toNat part.toNat (-n), 0)
def rkeep (y : Led) (who part n : Int) : Led × Int := if (y.rout who part n).2 = 0 then ((y.rout who part n).1.inc who.toNat (5 + part.toNat) n, 0) else y.rout who part n
def rover (y : Led) (src dst part n : Int) : Led × Int := if src < 0 ∨ y.n ≤ src then (y, 60) else if y.rerr dst part n ≠ 0 then (y, y.rerr dst part n) else if y.z src.toNat (5 + part.toNat) < n then (y, 61) else ((y.inc src.toNat (5 + part.toNat) (-n)).inc dst.toNat part.toNat n, 0)
def rpart (good : Int) : Int := if good < 0 ∨ 3 < good then -1 else good + 1
def ract (y : Led) (a : LAct) : Led × Int :=
  match arnd a.kind 11 with
  | 0 => y.rin a.who 0 a.n
  | 1 => y.rout a.who 0 a.n
  | 2 => y.rin a.who (rpart a.good) a.n
  | 3 => y.rout a.who (rpart a.good) a.n
  | 4 => y.rkeep a.who 0 a.n
  | 5 => y.rover a.who a.who 0 a.n
  | 6 => y.rkeep a.who (rpart a.good) a.n
  | 7 => y.rover a.who a.who (rpart a.good) a.n
  | 8 => y.rover a.who a.dst 0 a.n
  | 9 => y.rover a.who a.dst (rpart a.good) a.n
  | _ => y.mark a.who a.n a.text
/-- Which of the program's numbers is all of a part, which is what is held of it. -/
def tp (p : Nat) : Nat := if p = 0 then 0 else 1 + p
def kp (p : Nat) : Nat := if p = 0 then 1 else 5 + p
structure Rel (x y : Led) : Prop where
  n : y.n = x.n
  goods : y.goods = x.goods
  free : ∀ i p, i < x.n → p < 5 → y.z i p = x.z i (tp p) - x.z i (kp p)
  kept : ∀ i p, i < x.n → p < 5 → y.z i (5 + p) = x.z i (kp p)
  stamp : ∀ i, i < x.n → y.z i 10 = x.z i 10
  reply : ∀ i, i < x.n → y.r i = x.r i
theorem Rel.tot {x y : Led} (h : Rel x y) {p : Nat} (hp : p < 5) : y.rtot p = x.tot (tp p) := by
  unfold rtot Led.tot
  rw [h.n]
  exact sumTo_congr fun i hi => by rw [h.free i p hi hp, h.kept i p hi hp]; omega
theorem Rel.err {x y : Led} (h : Rel x y) (ho : x.Ok) (who n : Int) : y.rerr who 0 n = x.err who 0 n := by
  have := ho.kinds
  unfold rerr Led.err
  rw [h.n, h.goods]
  by_cases c : who < 0 ∨ (x.n : Int) ≤ who
  · rw [if_pos c, if_pos c]
  · rw [if_neg c, if_neg c]
    by_cases d : n < 1 ∨ 1099511627776 < n
    · rw [if_pos (by omega), if_pos (by omega)]
    · rw [if_neg (by omega), if_neg (by omega)]
theorem Rel.errg {x y : Led} (h : Rel x y) (ho : x.Ok) (who good n : Int) : y.rerr who (rpart good) n = x.err who good n := by
  have := ho.kinds
  unfold rerr Led.err rpart
  rw [h.n, h.goods]
  by_cases c : who < 0 ∨ (x.n : Int) ≤ who
  · rw [if_pos c, if_pos c]
  · rw [if_neg c, if_neg c]
    by_cases e : good < 0 ∨ 3 < good
    · rw [if_pos e, if_pos (by omega), if_pos (by omega)]
    · rw [if_neg e]
      by_cases d : good < 0 ∨ x.goods ≤ good ∨ n < 1 ∨ 1099511627776 < n
      · rw [if_pos d, if_pos (by omega)]
      · rw [if_neg d, if_neg (by omega)]
/-- All of a part turns by d, and what is held of it by e. -/
theorem Rel.turn {x y x' y' : Led} (h : Rel x y) {i p : Nat} (hi : i < x.n) (hp : p < 5) (d e : Int)
    (hx : x'.n = x.n ∧ x'.goods = x.goods ∧ x'.r = x.r ∧ ∀ a b, x'.z a b = x.z a b + (if a = i ∧ b = tp p then d else 0) + (if a = i ∧ b = kp p then e else 0))
    (hy : y'.n = y.n ∧ y'.goods = y.goods ∧ y'.r = y.r ∧ ∀ a b, y'.z a b = y.z a b + (if a = i ∧ b = p then d - e else 0) + (if a = i ∧ b = 5 + p then e else 0)) : Rel x' y' := by
  obtain ⟨x1, x2, x3, x4⟩ := hx
  obtain ⟨y1, y2, y3, y4⟩ := hy
  have key : ∀ q, q < 5 → (tp q = tp p ↔ q = p) ∧ (kp q = kp p ↔ q = p) ∧ tp q ≠ kp p ∧ kp q ≠ tp p ∧ tp q ≠ 10 ∧ kp q ≠ 10 := fun q hq => by
    unfold tp kp
    split <;> split <;> omega
  refine ⟨by rw [y1, x1]; exact h.n, by rw [y2, x2]; exact h.goods, fun a q ha hq => ?_, fun a q ha hq => ?_, fun a ha => ?_, fun a ha => by rw [x1] at ha; rw [y3, x3]; exact h.reply a ha⟩
  · rw [x1] at ha
    obtain ⟨k1, k2, k3, k4, _⟩ := key q hq
    rw [y4, x4, x4, h.free a q ha hq]
    by_cases c : a = i ∧ q = p
    · obtain ⟨rfl, rfl⟩ := c
      simp [k3, k4]; omega
    · have c1 : ¬ (a = i ∧ tp q = tp p) := fun hh => c ⟨hh.1, k1.1 hh.2⟩
      have c2 : ¬ (a = i ∧ kp q = kp p) := fun hh => c ⟨hh.1, k2.1 hh.2⟩
      have c3 : ¬ (a = i ∧ tp q = kp p) := fun hh => k3 hh.2
      have c4 : ¬ (a = i ∧ kp q = tp p) := fun hh => k4 hh.2
      have c5 : ¬ (a = i ∧ q = 5 + p) := by omega
      rw [if_neg c, if_neg c1, if_neg c2, if_neg c3, if_neg c4, if_neg c5]; omega
  · rw [x1] at ha
    obtain ⟨k1, k2, k3, k4, _⟩ := key q hq
    rw [y4, x4, h.kept a q ha hq]
    by_cases c : a = i ∧ q = p
    · obtain ⟨rfl, rfl⟩ := c
      simp [k4]
    · have c2 : ¬ (a = i ∧ kp q = kp p) := fun hh => c ⟨hh.1, k2.1 hh.2⟩
      have c4 : ¬ (a = i ∧ kp q = tp p) := fun hh => k4 hh.2
      have c5 : ¬ (a = i ∧ 5 + q = p) := by omega
      have c6 : ¬ (a = i ∧ 5 + q = 5 + p) := fun hh => c ⟨hh.1, by omega⟩
      rw [if_neg c2, if_neg c4, if_neg c5, if_neg c6]
  · rw [x1] at ha
    obtain ⟨k1, k2, k3, k4, k5, k6⟩ := key p hp
    rw [y4, x4, h.stamp a ha, if_neg (by omega), if_neg (by omega), if_neg (fun hh => k5 hh.2.symm), if_neg (fun hh => k6 hh.2.symm)]
theorem inc_is (x : Led) (i p : Nat) (d : Int) (a b : Nat) : (x.inc i p d).z a b = x.z a b + (if a = i ∧ b = p then d else 0) := by
  rw [inc_at]
  by_cases c : a = i ∧ b = p
  · obtain ⟨rfl, rfl⟩ := c
    simp
  · rw [if_neg c, if_neg c]; omega
theorem rerr_ok {y : Led} {who part n : Int} (h : y.rerr who part n = 0) : 0 ≤ who ∧ who < y.n ∧ 0 ≤ part ∧ part ≤ y.goods ∧ 1 ≤ n ∧ n ≤ 1099511627776 := by
  unfold rerr at h
  split at h
  · omega
  · split at h <;> omega
end Led
end Go.Proofs.Ythhjockofihohaa
