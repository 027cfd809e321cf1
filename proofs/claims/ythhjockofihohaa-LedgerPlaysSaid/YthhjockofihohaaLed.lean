/- The ledger in plain Lean: who has how much of what, each call as a function, and what holds behind all of them. -/
import Derived.Test.YthhjockofihohaaRows
namespace Go.Proofs.Ythhjockofihohaa
/-- The sum of the first n. -/
def sumTo (f : Nat → Int) : Nat → Int
  | 0 => 0
  | n + 1 => sumTo f n + f n
theorem sumTo_congr {f g : Nat → Int} {n : Nat} (h : ∀ i, i < n → f i = g i) : sumTo f n = sumTo g n := by
  induction n with
  | zero => rfl
  | succ n ih => rw [sumTo, sumTo, ih fun i hi => h i (by omega), h n (by omega)]
theorem sumTo_put (f : Nat → Int) (n i : Nat) (v : Int) (h : i < n) : sumTo (fun a => if a = i then v else f a) n = sumTo f n - f i + v := by
  induction n with
  | zero => omega
  | succ n ih =>
    rw [sumTo, sumTo]
    by_cases e : i = n
    · subst e
      rw [sumTo_congr (g := f) fun a ha => if_neg (by omega), if_pos rfl]; omega
    · rw [ih (by omega), if_neg (by omega)]; omega
theorem sumTo_pos {f : Nat → Int} {n : Nat} (h : ∀ i, i < n → 0 ≤ f i) : 0 ≤ sumTo f n := by
  induction n with
  | zero => exact Int.le_refl _
  | succ n ih =>
    rw [sumTo]
    have := ih fun i hi => h i (by omega)
    have := h n (by omega)
    omega
theorem le_sumTo {f : Nat → Int} {n i : Nat} (h : ∀ i, i < n → 0 ≤ f i) (hi : i < n) : f i ≤ sumTo f n := by
  induction n with
  | zero => omega
  | succ n ih =>
    rw [sumTo]
    have h1 := sumTo_pos (n := n) fun i hi => h i (by omega)
    by_cases e : i = n
    · subst e; omega
    · have := ih (fun i hi => h i (by omega)) (by omega)
      have := h n (by omega)
      omega
theorem sumTo_mono {f : Nat → Int} {n : Nat} (h : ∀ i, i < n → 0 ≤ f i) {k : Nat} (hk : k ≤ n) : sumTo f k ≤ sumTo f n := by
  induction n with
  | zero => rw [show k = 0 from by omega]; exact Int.le_refl _
  | succ n ih =>
    by_cases e : k = n + 1
    · rw [e]; exact Int.le_refl _
    · rw [sumTo]
      have := ih (fun i hi => h i (by omega)) (by omega)
      have := h n (by omega)
      omega
/-- A ledger: of each account cash (0), what of it is held (1), goods (2 to 5), what of them is locked (6 to 9), the stamp (10), and the reply. -/
structure Led where
  n : Nat
  goods : Int
  z : Nat → Nat → Int
  r : Nat → ByteArray
namespace Led
def tot (x : Led) (p : Nat) : Int := sumTo (fun i => x.z i p) x.n
def upd (x : Led) (i p : Nat) (v : Int) : Led := { x with z := fun a b => if a = i ∧ b = p then v else x.z a b }
def inc (x : Led) (i p : Nat) (d : Int) : Led := x.upd i p (x.z i p + d)
theorem upd_at (x : Led) (i p : Nat) (v : Int) (a b : Nat) : (x.upd i p v).z a b = if a = i ∧ b = p then v else x.z a b := rfl
theorem inc_at (x : Led) (i p : Nat) (d : Int) (a b : Nat) : (x.inc i p d).z a b = if a = i ∧ b = p then x.z i p + d else x.z a b := rfl
theorem tot_inc (x : Led) {i : Nat} (hi : i < x.n) (p : Nat) (d : Int) (q : Nat) : (x.inc i p d).tot q = if q = p then x.tot p + d else x.tot q := by
  show sumTo (fun a => (x.inc i p d).z a q) x.n = _
  by_cases e : q = p
  · subst e
    rw [if_pos rfl]
    have : (fun a => (x.inc i q d).z a q) = fun a => if a = i then x.z i q + d else x.z a q := by
      funext a; rw [inc_at]; simp
    rw [this, sumTo_put _ _ _ _ hi]
    unfold tot; omega
  · rw [if_neg e]
    exact sumTo_congr fun a _ => by rw [inc_at, if_neg (by omega)]
/-- Why a part's amount may not be asked for. -/
def err (x : Led) (who good n : Int) : Int := if who < 0 ∨ x.n ≤ who then 60 else if good < 0 ∨ x.goods ≤ good ∨ n < 1 ∨ 1099511627776 < n then 1 else 0
def pay (x : Led) (who n : Int) : Led × Int := if x.err who 0 n ≠ 0 then (x, x.err who 0 n) else if 1099511627776 < x.tot 0 + n then (x, 62) else (x.inc who.toNat 0 n, 0)
def take (x : Led) (who n : Int) : Led × Int := if x.err who 0 n ≠ 0 then (x, x.err who 0 n) else if x.z who.toNat 0 - x.z who.toNat 1 < n then (x, 61) else (x.inc who.toNat 0 (-n), 0)
def store (x : Led) (who good n : Int) : Led × Int := if x.err who good n ≠ 0 then (x, x.err who good n) else if 1099511627776 < x.tot (2 + good.toNat) + n then (x, 62) else (x.inc who.toNat (2 + good.toNat) n, 0)
def fetch (x : Led) (who good n : Int) : Led × Int := if x.err who good n ≠ 0 then (x, x.err who good n) else if x.z who.toNat (2 + good.toNat) - x.z who.toNat (6 + good.toNat) < n then (x, 61) else (x.inc who.toNat (2 + good.toNat) (-n), 0)
def hold (x : Led) (who n : Int) : Led × Int := if x.err who 0 n ≠ 0 then (x, x.err who 0 n) else if x.z who.toNat 0 - x.z who.toNat 1 < n then (x, 61) else (x.inc who.toNat 1 n, 0)
def free (x : Led) (who n : Int) : Led × Int := if x.err who 0 n ≠ 0 then (x, x.err who 0 n) else if x.z who.toNat 1 < n then (x, 61) else (x.inc who.toNat 1 (-n), 0)
def lock (x : Led) (who good n : Int) : Led × Int := if x.err who good n ≠ 0 then (x, x.err who good n) else if x.z who.toNat (2 + good.toNat) - x.z who.toNat (6 + good.toNat) < n then (x, 61) else (x.inc who.toNat (6 + good.toNat) n, 0)
def unlock (x : Led) (who good n : Int) : Led × Int := if x.err who good n ≠ 0 then (x, x.err who good n) else if x.z who.toNat (6 + good.toNat) < n then (x, 61) else (x.inc who.toNat (6 + good.toNat) (-n), 0)
def move (x : Led) (src dst n : Int) : Led × Int := if src < 0 ∨ x.n ≤ src then (x, 60) else if x.err dst 0 n ≠ 0 then (x, x.err dst 0 n) else if x.z src.toNat 1 < n then (x, 61) else (((x.inc src.toNat 1 (-n)).inc src.toNat 0 (-n)).inc dst.toNat 0 n, 0)
def hand (x : Led) (src dst good n : Int) : Led × Int := if src < 0 ∨ x.n ≤ src then (x, 60) else if x.err dst good n ≠ 0 then (x, x.err dst good n) else if x.z src.toNat (6 + good.toNat) < n then (x, 61) else (((x.inc src.toNat (6 + good.toNat) (-n)).inc src.toNat (2 + good.toNat) (-n)).inc dst.toNat (2 + good.toNat) n, 0)
def mark (x : Led) (who stamp : Int) (t : ByteArray) : Led × Int := if who < 0 ∨ x.n ≤ who then (x, 60) else if stamp < 1 ∨ 1099511627776 < stamp ∨ 256 < t.size then (x, 1) else if stamp ≤ x.z who.toNat 10 then (x, 91) else ({ x.upd who.toNat 10 stamp with r := fun i => if i = who.toNat then t else x.r i }, 0)
/-- What holds behind all calls. -/
structure Ok (x : Led) : Prop where
  len : 1 ≤ x.n ∧ x.n ≤ 16
  kinds : 1 ≤ x.goods ∧ x.goods ≤ 4
  cash : ∀ i, i < x.n → 0 ≤ x.z i 1 ∧ x.z i 1 ≤ x.z i 0
  good : ∀ i g, i < x.n → g < 4 → 0 ≤ x.z i (6 + g) ∧ x.z i (6 + g) ≤ x.z i (2 + g)
  none_ : ∀ (i g : Nat), i < x.n → g < 4 → x.goods ≤ (g : Int) → x.z i (2 + g) = 0
  stamp : ∀ i, i < x.n → 0 ≤ x.z i 10 ∧ x.z i 10 ≤ 1099511627776
  most : x.tot 0 ≤ 1099511627776
  mosts : ∀ g, g < 4 → x.tot (2 + g) ≤ 1099511627776
section
variable {x : Led}
theorem Ok.cash_le (h : x.Ok) {i : Nat} (hi : i < x.n) : x.z i 0 ≤ 1099511627776 :=
  Int.le_trans (le_sumTo (f := fun i => x.z i 0) (fun j hj => by have := h.cash j hj; omega) hi) h.most
theorem Ok.good_le (h : x.Ok) {i g : Nat} (hi : i < x.n) (hg : g < 4) : x.z i (2 + g) ≤ 1099511627776 :=
  Int.le_trans (le_sumTo (f := fun i => x.z i (2 + g)) (fun j hj => by have := h.good j g hj hg; omega) hi) (h.mosts g hg)
theorem err_ok {who good n : Int} (h : x.err who good n = 0) : 0 ≤ who ∧ who < x.n ∧ 0 ≤ good ∧ good < x.goods ∧ 1 ≤ n ∧ n ≤ 1099511627776 := by
  unfold err at h
  split at h
  · omega
  · split at h <;> omega
end
end Led
end Go.Proofs.Ythhjockofihohaa
