/- The reference's calls and the program's, side by side: the plain law. -/
import Derived.Test.YthhjockofihohaaRefP
namespace Go.Proofs.Ythhjockofihohaa
namespace Led
section
variable {x y : Led}
theorem Rel.in_ (h : Rel x y) {i p : Nat} (hi : i < x.n) (hp : p < 5) (d : Int) : Rel (x.inc i (tp p) d) (y.inc i p d) :=
  h.turn hi hp d 0 ⟨rfl, rfl, rfl, fun a b => by rw [inc_is]; simp⟩ ⟨rfl, rfl, rfl, fun a b => by rw [inc_is]; simp⟩
theorem Rel.keep_ (h : Rel x y) {i p : Nat} (hi : i < x.n) (hp : p < 5) (n : Int) : Rel (x.inc i (kp p) n) ((y.inc i p (-n)).inc i (5 + p) n) :=
  h.turn hi hp 0 n ⟨rfl, rfl, rfl, fun a b => by rw [inc_is]; simp⟩ ⟨rfl, rfl, rfl, fun a b => by rw [inc_is, inc_is]; simp⟩
theorem Rel.over_ (h : Rel x y) {s t p : Nat} (hs : s < x.n) (ht : t < x.n) (hp : p < 5) (n : Int) : Rel (((x.inc s (kp p) (-n)).inc s (tp p) (-n)).inc t (tp p) n) ((y.inc s (5 + p) (-n)).inc t p n) := by
  have h1 : Rel ((x.inc s (kp p) (-n)).inc s (tp p) (-n)) (y.inc s (5 + p) (-n)) :=
    h.turn hs hp (-n) (-n) ⟨rfl, rfl, rfl, fun a b => by rw [inc_is, inc_is]; omega⟩ ⟨rfl, rfl, rfl, fun a b => by rw [inc_is]; simp⟩
  exact h1.in_ (i := t) ht hp n
theorem Rel.loose_ (h : Rel x y) {i p : Nat} (hi : i < x.n) (hp : p < 5) (n : Int) : Rel (x.inc i (kp p) (-n)) ((y.inc i (5 + p) (-n)).inc i p n) :=
  h.turn hi hp 0 (-n) ⟨rfl, rfl, rfl, fun a b => by rw [inc_is]; simp⟩ ⟨rfl, rfl, rfl, fun a b => by rw [inc_is, inc_is]; simp; omega⟩
/-- Of a part p, asked for by the number q in the reference. -/
theorem in_law (h : Rel x y) {who n q e : Int} {p : Nat} (hp : p < 5) (he : y.rerr who q n = e) (hq : e = 0 → q = (p : Int)) :
    y.rin who q n = if e ≠ 0 then (y, e) else if 1099511627776 < x.tot (tp p) + n then (y, 62) else (y.inc who.toNat p n, 0) := by
  unfold rin
  rw [he]
  by_cases c : e = 0
  · have c' : ¬ e ≠ 0 := fun hh => hh c
    rw [if_neg c', if_neg c', hq c, Int.toNat_natCast, h.tot hp]
    by_cases d : 1099511627776 < x.tot (tp p) + n
    · rw [if_pos (by omega), if_pos d]
    · rw [if_neg (by omega), if_neg d]
  · rw [if_pos c, if_pos c]
theorem out_law (h : Rel x y) {who n q e : Int} {p : Nat} (hp : p < 5) (he : y.rerr who q n = e) (hq : e = 0 → q = (p : Int) ∧ 0 ≤ who ∧ who < x.n) :
    y.rout who q n = if e ≠ 0 then (y, e) else if x.z who.toNat (tp p) - x.z who.toNat (kp p) < n then (y, 61) else (y.inc who.toNat p (-n), 0) := by
  unfold rout
  rw [he]
  by_cases c : e = 0
  · obtain ⟨h1, h2, h3⟩ := hq c
    have c' : ¬ e ≠ 0 := fun hh => hh c
    rw [if_neg c', if_neg c', h1, Int.toNat_natCast, h.free who.toNat p (by omega) hp]
  · rw [if_pos c, if_pos c]
def Same (a b : Led × Int) : Prop := b.2 = a.2 ∧ Rel a.1 b.1
theorem pay_same (h : Rel x y) (ho : x.Ok) (who n : Int) : Same (x.pay who n) (y.rin who 0 n) := by
  rw [in_law h (p := 0) (by omega) (h.err ho who n) fun _ => rfl]
  unfold pay Same
  by_cases c : x.err who 0 n ≠ 0
  · rw [if_pos c, if_pos c]; exact ⟨rfl, h⟩
  · rw [if_neg c, if_neg c]
    obtain ⟨h0, h1, _⟩ := err_ok (Classical.not_not.1 c)
    show _ ∧ _
    rw [show tp 0 = 0 from rfl]
    split
    · exact ⟨rfl, h⟩
    · exact ⟨rfl, h.in_ (i := who.toNat) (p := 0) (by omega) (by omega) n⟩
theorem take_same (h : Rel x y) (ho : x.Ok) (who n : Int) : Same (x.take who n) (y.rout who 0 n) := by
  rw [out_law h (p := 0) (by omega) (h.err ho who n) fun c => ⟨rfl, by have := err_ok c; omega⟩]
  unfold take Same
  by_cases c : x.err who 0 n ≠ 0
  · rw [if_pos c, if_pos c]; exact ⟨rfl, h⟩
  · rw [if_neg c, if_neg c]
    obtain ⟨h0, h1, _⟩ := err_ok (Classical.not_not.1 c)
    rw [show tp 0 = 0 from rfl, show kp 0 = 1 from rfl]
    split
    · exact ⟨rfl, h⟩
    · exact ⟨rfl, h.in_ (i := who.toNat) (p := 0) (by omega) (by omega) (-n)⟩
theorem part_is (ho : x.Ok) {who good n : Int} (c : x.err who good n = 0) : ∃ g : Nat, good = (g : Int) ∧ g < 4 ∧ rpart good = ((g + 1 : Nat) : Int) ∧ tp (g + 1) = 2 + g ∧ kp (g + 1) = 6 + g ∧ 0 ≤ who ∧ who < x.n := by
  have h1 := err_ok c
  have h2 := ho.kinds
  refine ⟨good.toNat, by omega, by omega, ?_, ?_, ?_, by omega, by omega⟩
  · unfold rpart; rw [if_neg (by omega)]; omega
  · unfold tp; rw [if_neg (by omega)]; omega
  · unfold kp; rw [if_neg (by omega)]; omega
theorem store_same (h : Rel x y) (ho : x.Ok) (who good n : Int) : Same (x.store who good n) (y.rin who (rpart good) n) := by
  unfold store Same
  by_cases c : x.err who good n ≠ 0
  · have e : y.rin who (rpart good) n = (y, x.err who good n) := by unfold rin; rw [h.errg ho, if_pos c]
    rw [e, if_pos c]; exact ⟨rfl, h⟩
  · have c' := Classical.not_not.1 c
    obtain ⟨g, rfl, hg, hr, ht, hk, h0, h1⟩ := part_is ho c'
    rw [in_law h (p := g + 1) (by omega) ((h.errg ho who _ n).trans c') fun _ => hr, if_neg (show ¬ (0 : Int) ≠ 0 from fun hh => hh rfl), if_neg c, ht, Int.toNat_natCast]
    split
    · exact ⟨rfl, h⟩
    · have := h.in_ (i := who.toNat) (p := g + 1) (by omega) (by omega) n
      rw [ht] at this
      exact ⟨rfl, this⟩
theorem fetch_same (h : Rel x y) (ho : x.Ok) (who good n : Int) : Same (x.fetch who good n) (y.rout who (rpart good) n) := by
  unfold fetch Same
  by_cases c : x.err who good n ≠ 0
  · have e : y.rout who (rpart good) n = (y, x.err who good n) := by unfold rout; rw [h.errg ho, if_pos c]
    rw [e, if_pos c]; exact ⟨rfl, h⟩
  · have c' := Classical.not_not.1 c
    obtain ⟨g, rfl, hg, hr, ht, hk, h0, h1⟩ := part_is ho c'
    rw [out_law h (p := g + 1) (by omega) ((h.errg ho who _ n).trans c') fun _ => ⟨hr, h0, h1⟩, if_neg (show ¬ (0 : Int) ≠ 0 from fun hh => hh rfl), if_neg c, ht, hk, Int.toNat_natCast]
    split
    · exact ⟨rfl, h⟩
    · have := h.in_ (i := who.toNat) (p := g + 1) (by omega) (by omega) (-n)
      rw [ht] at this
      exact ⟨rfl, this⟩
theorem hold_same (h : Rel x y) (ho : x.Ok) (who n : Int) : Same (x.hold who n) (y.rkeep who 0 n) := by
  unfold rkeep
  rw [out_law h (p := 0) (by omega) (h.err ho who n) fun c => ⟨rfl, by have := err_ok c; omega⟩]
  unfold hold Same
  by_cases c : x.err who 0 n ≠ 0
  · rw [if_pos c, if_pos c, if_neg c]; exact ⟨rfl, h⟩
  · rw [if_neg c, if_neg c]
    obtain ⟨h0, h1, _⟩ := err_ok (Classical.not_not.1 c)
    rw [show tp 0 = 0 from rfl, show kp 0 = 1 from rfl]
    by_cases d : x.z who.toNat 0 - x.z who.toNat 1 < n
    · rw [if_pos d, if_pos d, if_neg (show ¬ (61 : Int) = 0 by decide)]; exact ⟨rfl, h⟩
    · rw [if_neg d, if_neg d, if_pos rfl]
      exact ⟨rfl, h.keep_ (i := who.toNat) (p := 0) (by omega) (by omega) n⟩
theorem lock_same (h : Rel x y) (ho : x.Ok) (who good n : Int) : Same (x.lock who good n) (y.rkeep who (rpart good) n) := by
  unfold rkeep lock Same
  by_cases c : x.err who good n ≠ 0
  · have e : y.rout who (rpart good) n = (y, x.err who good n) := by unfold rout; rw [h.errg ho, if_pos c]
    rw [e, if_pos c, if_neg c]; exact ⟨rfl, h⟩
  · have c' := Classical.not_not.1 c
    obtain ⟨g, rfl, hg, hr, ht, hk, h0, h1⟩ := part_is ho c'
    rw [out_law h (p := g + 1) (by omega) ((h.errg ho who _ n).trans c') fun _ => ⟨hr, h0, h1⟩, if_neg (show ¬ (0 : Int) ≠ 0 from fun hh => hh rfl), if_neg c, ht, hk, Int.toNat_natCast, hr, Int.toNat_natCast]
    by_cases d : x.z who.toNat (2 + g) - x.z who.toNat (6 + g) < n
    · rw [if_pos d, if_pos d, if_neg (show ¬ (61 : Int) = 0 by decide)]; exact ⟨rfl, h⟩
    · rw [if_neg d, if_neg d, if_pos rfl]
      have := h.keep_ (i := who.toNat) (p := g + 1) (by omega) (by omega) n
      rw [hk] at this
      exact ⟨rfl, this⟩
theorem free_same (h : Rel x y) (ho : x.Ok) (who n : Int) : Same (x.free who n) (y.rover who who 0 n) := by
  unfold rover free Same
  rw [h.err ho, h.n]
  by_cases b : who < 0 ∨ (x.n : Int) ≤ who
  · have e : x.err who 0 n = 60 := by unfold Led.err; rw [if_pos b]
    rw [if_pos b, e, if_pos (by decide)]; exact ⟨rfl, h⟩
  · rw [if_neg b]
    by_cases c : x.err who 0 n ≠ 0
    · rw [if_pos c, if_pos c]; exact ⟨rfl, h⟩
    · rw [if_neg c, if_neg c, show (0 : Int).toNat = 0 from rfl, h.kept who.toNat 0 (by omega) (by omega), show kp 0 = 1 from rfl]
      split
      · exact ⟨rfl, h⟩
      · exact ⟨rfl, h.loose_ (i := who.toNat) (p := 0) (by omega) (by omega) n⟩
theorem unlock_same (h : Rel x y) (ho : x.Ok) (who good n : Int) : Same (x.unlock who good n) (y.rover who who (rpart good) n) := by
  unfold rover unlock Same
  rw [h.errg ho, h.n]
  by_cases b : who < 0 ∨ (x.n : Int) ≤ who
  · have e : x.err who good n = 60 := by unfold Led.err; rw [if_pos b]
    rw [if_pos b, e, if_pos (by decide)]; exact ⟨rfl, h⟩
  · rw [if_neg b]
    by_cases c : x.err who good n ≠ 0
    · rw [if_pos c, if_pos c]; exact ⟨rfl, h⟩
    · obtain ⟨g, rfl, hg, hr, ht, hk, h0, h1⟩ := part_is ho (Classical.not_not.1 c)
      rw [if_neg c, if_neg c, hr, Int.toNat_natCast, Int.toNat_natCast, h.kept who.toNat (g + 1) (by omega) (by omega), hk]
      split
      · exact ⟨rfl, h⟩
      · have := h.loose_ (i := who.toNat) (p := g + 1) (by omega) (by omega) n
        rw [hk] at this
        exact ⟨rfl, this⟩
theorem move_same (h : Rel x y) (ho : x.Ok) (src dst n : Int) : Same (x.move src dst n) (y.rover src dst 0 n) := by
  unfold rover move Same
  rw [h.err ho, h.n]
  by_cases b : src < 0 ∨ (x.n : Int) ≤ src
  · rw [if_pos b, if_pos b]; exact ⟨rfl, h⟩
  · rw [if_neg b, if_neg b]
    by_cases c : x.err dst 0 n ≠ 0
    · rw [if_pos c, if_pos c]; exact ⟨rfl, h⟩
    · have hd := err_ok (Classical.not_not.1 c)
      rw [if_neg c, if_neg c, show (0 : Int).toNat = 0 from rfl, h.kept src.toNat 0 (by omega) (by omega), show kp 0 = 1 from rfl]
      split
      · exact ⟨rfl, h⟩
      · exact ⟨rfl, h.over_ (s := src.toNat) (t := dst.toNat) (p := 0) (by omega) (by omega) (by omega) n⟩
theorem hand_same (h : Rel x y) (ho : x.Ok) (src dst good n : Int) : Same (x.hand src dst good n) (y.rover src dst (rpart good) n) := by
  unfold rover hand Same
  rw [h.errg ho, h.n]
  by_cases b : src < 0 ∨ (x.n : Int) ≤ src
  · rw [if_pos b, if_pos b]; exact ⟨rfl, h⟩
  · rw [if_neg b, if_neg b]
    by_cases c : x.err dst good n ≠ 0
    · rw [if_pos c, if_pos c]; exact ⟨rfl, h⟩
    · obtain ⟨g, rfl, hg, hr, ht, hk, h0, h1⟩ := part_is ho (Classical.not_not.1 c)
      rw [if_neg c, if_neg c, hr, Int.toNat_natCast, Int.toNat_natCast, h.kept src.toNat (g + 1) (by omega) (by omega), hk]
      split
      · exact ⟨rfl, h⟩
      · have := h.over_ (s := src.toNat) (t := dst.toNat) (p := g + 1) (by omega) (by omega) (by omega) n
        rw [hk, ht] at this
        exact ⟨rfl, this⟩
theorem mark_same (h : Rel x y) (who s : Int) (t : ByteArray) : Same (x.mark who s t) (y.mark who s t) := by
  unfold mark Same
  rw [h.n]
  by_cases b : who < 0 ∨ (x.n : Int) ≤ who
  · rw [if_pos b, if_pos b]; exact ⟨rfl, h⟩
  · rw [if_neg b, if_neg b]
    split
    · exact ⟨rfl, h⟩
    · rw [h.stamp who.toNat (by omega)]
      split
      · exact ⟨rfl, h⟩
      · refine ⟨rfl, h.n, h.goods, fun i p hi hp => ?_, fun i p hi hp => ?_, fun i hi => ?_, fun i hi => ?_⟩
        · show (if i = who.toNat ∧ p = 10 then s else y.z i p) = (if i = who.toNat ∧ tp p = 10 then s else x.z i (tp p)) - (if i = who.toNat ∧ kp p = 10 then s else x.z i (kp p))
          have k1 : tp p ≠ 10 := by unfold tp; split <;> omega
          have k2 : kp p ≠ 10 := by unfold kp; split <;> omega
          rw [if_neg (by omega), if_neg (fun hh => k1 hh.2), if_neg (fun hh => k2 hh.2)]
          exact h.free i p hi hp
        · show (if i = who.toNat ∧ 5 + p = 10 then s else y.z i (5 + p)) = (if i = who.toNat ∧ kp p = 10 then s else x.z i (kp p))
          have k2 : kp p ≠ 10 := by unfold kp; split <;> omega
          rw [if_neg (by omega), if_neg (fun hh => k2 hh.2)]
          exact h.kept i p hi hp
        · show (if i = who.toNat ∧ 10 = 10 then s else y.z i 10) = (if i = who.toNat ∧ 10 = 10 then s else x.z i 10)
          rw [h.stamp i hi]
        · show (if i = who.toNat then t else y.r i) = (if i = who.toNat then t else x.r i)
          rw [h.reply i hi]
theorem act_same_ref (h : Rel x y) (ho : x.Ok) (a : LAct) : Same (x.act a) (y.ract a) := by
  have := arnd_lt a.kind (below := 11) (by omega)
  unfold act ract
  generalize arnd a.kind 11 = k at this
  rcases (show k = 0 ∨ k = 1 ∨ k = 2 ∨ k = 3 ∨ k = 4 ∨ k = 5 ∨ k = 6 ∨ k = 7 ∨ k = 8 ∨ k = 9 ∨ k = 10 by omega) with rfl | rfl | rfl | rfl | rfl | rfl | rfl | rfl | rfl | rfl | rfl
  · exact pay_same h ho _ _
  · exact take_same h ho _ _
  · exact store_same h ho _ _ _
  · exact fetch_same h ho _ _ _
  · exact hold_same h ho _ _
  · exact free_same h ho _ _
  · exact lock_same h ho _ _ _
  · exact unlock_same h ho _ _ _
  · exact move_same h ho _ _ _
  · exact hand_same h ho _ _ _ _
  · exact mark_same h _ _ _
end
/-- What may stand in the reference's. -/
structure ROk (y : Led) : Prop where
  len : 1 ≤ y.n ∧ y.n ≤ 16
  kinds : 1 ≤ y.goods ∧ y.goods ≤ 4
  num : ∀ i k, i < y.n → k < 11 → 0 ≤ y.z i k ∧ y.z i k ≤ 1099511627776
  tot : ∀ p, p < 5 → y.rtot p ≤ 1099511627776
theorem Rel.rok {x y : Led} (h : Rel x y) (ho : x.Ok) : y.ROk := by
  have bd : ∀ i p, i < x.n → p < 5 → 0 ≤ x.z i (kp p) ∧ x.z i (kp p) ≤ x.z i (tp p) ∧ x.z i (tp p) ≤ 1099511627776 := fun i p hi hp => by
    by_cases e : p = 0
    · subst e
      have h1 := ho.cash i hi
      exact ⟨h1.1, h1.2, ho.cash_le hi⟩
    · obtain ⟨g, rfl⟩ : ∃ g, p = g + 1 := ⟨p - 1, by omega⟩
      have e1 : tp (g + 1) = 2 + g := by unfold tp; rw [if_neg (by omega)]; omega
      have e2 : kp (g + 1) = 6 + g := by unfold kp; rw [if_neg (by omega)]; omega
      rw [e1, e2]
      have h1 := ho.good i g hi (by omega)
      exact ⟨h1.1, h1.2, ho.good_le hi (by omega)⟩
  refine ⟨by rw [h.n]; exact ho.len, by rw [h.goods]; exact ho.kinds, fun i k hi hk => ?_, fun p hp => ?_⟩
  · rw [h.n] at hi
    by_cases k5 : k < 5
    · rw [h.free i k hi k5]
      have := bd i k hi k5
      omega
    · by_cases k10 : k < 10
      · obtain ⟨p, rfl⟩ : ∃ p, k = 5 + p := ⟨k - 5, by omega⟩
        rw [h.kept i p hi (by omega)]
        have := bd i p hi (by omega)
        omega
      · obtain rfl : k = 10 := by omega
        rw [h.stamp i hi]
        exact ho.stamp i hi
  · rw [h.tot hp]
    by_cases e : p = 0
    · subst e; exact ho.most
    · obtain ⟨g, rfl⟩ : ∃ g, p = g + 1 := ⟨p - 1, by omega⟩
      have e1 : tp (g + 1) = 2 + g := by unfold tp; rw [if_neg (by omega)]; omega
      rw [e1]
      exact ho.mosts g (by omega)
end Led
end Go.Proofs.Ythhjockofihohaa
