/- An auction as the laws use it: one predicate, one lemma for each call. -/
import Derived.Test.YtccmafmeblojpaaSale
namespace Go.Proofs.Ytccmafmeblojpaa
open Go.RowKit
theorem Auc.Fair.bid {a : Auc} (h : a.Fair) (who n : Int) : (a.bid who n).1.Fair := by
  unfold Auc.bid
  split
  · exact h
  split
  · exact h
  split
  · exact h
  · rename_i h1 h2 h3
    have hlt : who.toNat < a.l.length := by omega
    have hmem : a.l.getD who.toNat (0, 0) ∈ a.l := by
      rw [List.getD_eq_getElem?_getD, List.getElem?_eq_getElem hlt]; exact List.getElem_mem hlt
    have hw : (a.l.set who.toNat ((a.l.getD who.toNat (0, 0)).1, n)).map (·.1) = a.l.map (·.1) := by
      rw [List.map_set]
      apply List.ext_getElem?
      intro j
      rw [List.getElem?_set]
      by_cases e : who.toNat = j
      · subst e
        rw [if_pos rfl, if_pos (by simpa using hlt), List.getElem?_map, List.getElem?_eq_getElem hlt, List.getD_eq_getElem?_getD, List.getElem?_eq_getElem hlt]; rfl
      · rw [if_neg e]
    refine ⟨fun hr p hp => ?_, fun hr p hp => ?_, fun hr => ?_, fun hs => ?_⟩
    · rcases List.mem_or_eq_of_mem_set hp with hp | rfl
      · exact h.first hr p hp
      · show (a.l.getD who.toNat (0, 0)).1 = 0
        exact h.first hr _ hmem
    · rcases List.mem_or_eq_of_mem_set hp with hp | rfl
      · exact h.fall hr p hp
      · have hr' : a.round > 1 := hr
        show n ≤ (a.l.getD who.toNat (0, 0)).1
        rcases Int.lt_or_le (a.l.getD who.toNat (0, 0)).1 n with h4 | h4
        · exact (h3 ⟨hr', h4⟩).elim
        · exact h4
    · have := h.more hr
      unfold Auc.wases at this ⊢
      simp only [hw]
      exact this
    · have : a.state = 1 := hs
      omega
theorem Auc.Fair.next {a : Auc} (h : a.Fair) (hok : a.Ok) : a.next.1.Fair := by
  unfold Auc.next
  split
  · exact h
  split
  · rename_i h1 h2
    exact ⟨h.first, h.fall, h.more, fun _ => h2⟩
  split
  · exact ⟨h.first, h.fall, h.more, fun hs => absurd (show (2 : Int) = 1 from hs) (by decide)⟩
  · rename_i h1 h2 h3
    have hr := hok.round
    refine ⟨fun hr2 => ?_, fun _ p hp => ?_, fun _ => ?_, fun hs => ?_⟩
    · have : a.round + 1 = 1 := hr2
      omega
    · obtain ⟨q, _, rfl⟩ := List.mem_map.1 hp
      exact Int.le_refl _
    · show a.supply < Auc.wases (a.l.map fun p => (p.2, p.2))
      have e : Auc.wases (a.l.map fun p => (p.2, p.2)) = a.demand := by
        unfold Auc.wases Auc.demand Auc.nows
        rw [List.map_map]; rfl
      rw [e]; omega
    · have : a.state = 1 := hs
      omega
theorem Auc.Fair.fresh (su st sp : Int) (n : Nat) : (Auc.fresh su st sp n).Fair := by
  refine ⟨fun _ p hp => ?_, fun hr => ?_, fun hr => ?_, fun hs => ?_⟩
  · rw [List.eq_of_mem_replicate hp]
  · exact absurd hr (by show ¬ (1 : Int) < 1; omega)
  · exact absurd hr (by show ¬ (1 : Int) < 1; omega)
  · exact absurd (show (0 : Int) = 1 from hs) (by decide)
/-- An auction made behind w0, and nothing below has turned. -/
structure Aw (w0 w : World) (g gl : Nat) (a : Auc) : Prop where
  at_ : AtA w g gl a
  fair : a.Fair
  head : w0.heap.size ≤ g
  list : w0.heap.size ≤ gl
  all : Below w0.heap.size w0 w
section
variable {w0 w w' : World} {g gl : Nat} {a : Auc}
theorem Aw.below (h : Aw w0 w g gl a) (hb : Below w.heap.size w w') : Aw w0 w' g gl a := ⟨h.at_.below hb, h.fair, h.head, h.list, below_next h.all hb⟩
theorem Aw.drewN (h : Aw w0 w g gl a) (n : Nat) : Aw w0 (w.drewN n) g gl a := ⟨h.at_.drewN n, h.fair, h.head, h.list, below_draw h.all n⟩
theorem Aw.feet (h : Aw w0 w g gl a) (ho : Only (feet2 g gl) w w') : Below w0.heap.size w0 w' := h.all.trans (ho.below h.all.size fun k hk => by
  rcases hk with rfl | rfl
  · exact h.head
  · exact h.list)
theorem Aw.bid (h : Aw w0 w g gl a) (who n : Int) : Calls Try.prog 19 #[.pointer (some ⟨g, 0, none⟩), .int .i64 who, .int .i64 n] w fun e w' => e = .returned (.int .i64 (a.bid who n).2) ∧ Aw w0 w' g gl (a.bid who n).1 :=
  (bid_calls w g gl a h.at_ who n).mono fun _ _ ⟨h1, h2, h3⟩ => ⟨h1, h2, h.fair.bid who n, h.head, h.list, h.feet h3⟩
theorem Aw.next (h : Aw w0 w g gl a) : Calls Try.prog 23 #[.pointer (some ⟨g, 0, none⟩)] w fun e w' => e = .returned (.tuple #[.bool a.next.2.1, .int .i64 a.next.2.2]) ∧ Aw w0 w' g gl a.next.1 :=
  (next_calls w g gl a h.at_).mono fun _ _ ⟨h1, h2, h3⟩ => ⟨h1, h2, h.fair.next h.at_.ok, h.head, h.list, h.feet h3⟩
theorem Aw.price (h : Aw w0 w g gl a) : Calls Try.prog 20 #[.pointer (some ⟨g, 0, none⟩)] w fun e w' => e = .returned (.int .i64 a.price) ∧ ∃ d, w' = w.drewN d := price_calls w g gl a h.at_
theorem Aw.round (h : Aw w0 w g gl a) : Calls Try.prog 21 #[.pointer (some ⟨g, 0, none⟩)] w fun e w' => e = .returned (.int .i64 a.round) ∧ w' = w := round_calls w g gl a h.at_
theorem Aw.state (h : Aw w0 w g gl a) : Calls Try.prog 24 #[.pointer (some ⟨g, 0, none⟩)] w fun e w' => e = .returned (.int .i64 a.state) ∧ w' = w := state_calls w g gl a h.at_
theorem Aw.demand (h : Aw w0 w g gl a) : Calls Try.prog 22 #[.pointer (some ⟨g, 0, none⟩)] w fun e w' => e = .returned (.int .i64 a.demand) ∧ Aw w0 w' g gl a :=
  (demand_calls w g gl a h.at_).mono fun _ _ ⟨h1, h2⟩ => ⟨h1, h.below h2⟩
theorem Aw.sale (h : Aw w0 w g gl a) : Calls Try.prog 27 #[.pointer (some ⟨g, 0, none⟩)] w fun e w' => ∃ v, e = .returned (.tuple #[.int .i64 a.sale.1, v, .int .i64 a.sale.2.2]) ∧ Got w0 w' v a.sale.2.1 ∧ Aw w0 w' g gl a :=
  (sale_calls w g gl a h.at_ h.fair).mono fun _ _ ⟨v, h1, h2, h3⟩ => ⟨v, h1, h2.elim .inl fun ⟨gs, e1, e2, e3⟩ => .inr ⟨gs, e1, Nat.le_trans h.all.size e2, e3⟩, h.below h3⟩
theorem Aw.new (w : World) (su st sp : Int) (n : Nat) (h1 : 1 ≤ su ∧ su ≤ 1048576) (h2 : 0 ≤ st ∧ st ≤ 1099511627776) (h3 : 1 ≤ sp ∧ sp ≤ 1099511627776) (h4 : 1 ≤ n ∧ n ≤ 16) :
    Calls Try.prog 18 #[.int .i64 su, .int .i64 st, .int .i64 sp, .int .i64 (n : Int)] w fun e w' => ∃ g gl, e = .returned (.tuple #[.pointer (some ⟨g, 0, none⟩), .int .i64 0]) ∧ Aw w w' g gl (Auc.fresh su st sp n) :=
  (new_calls su st sp n w h1 h2 h3 h4).mono fun _ _ ⟨g, gl, e1, e2, e3, e4, e5⟩ => ⟨g, gl, e1, e2, Auc.Fair.fresh su st sp n, e3, e4, e5⟩
end
end Go.Proofs.Ytccmafmeblojpaa
