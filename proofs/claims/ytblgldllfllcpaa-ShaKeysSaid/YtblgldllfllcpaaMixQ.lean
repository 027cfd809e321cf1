/- The region of mix that lays the state and the table: run by an invariant, in whatever order it is drawn. -/
import Derived.Test.YtblgldllfllcpaaMixP
import Derived.Test.YtblgldllfllcpaaInv
namespace Go.Proofs.Ytblgldllfllcpaa
open Go.RowKit
theorem MixIn.alloc {w wr : World} {cs ws : Array Value} (h : MixIn w wr cs ws) (o : Obj) : MixIn w (wr.alloc o) cs ws := by
  obtain ⟨h1, h2, ⟨z, hz, h3⟩, h4⟩ := h
  exact ⟨h1.alloc h1.size o, h2.alloc o, ⟨z, hz, h3.alloc o⟩, h4.alloc o⟩
theorem MixIn.below {w wr w2 : World} {cs ws : Array Value} (h : MixIn w wr cs ws) (hb : Below wr.heap.size wr w2) : MixIn w w2 cs ws := by
  obtain ⟨h1, h2, ⟨z, hz, h3⟩, h4⟩ := h
  exact ⟨below_next h1 hb, h2.below hb h2.lt, ⟨z, hz, h3.below hb h3.lt⟩, h4.below hb h4.lt⟩
theorem MixIn.row {w wr : World} {cs ws : Array Value} (h : MixIn w wr cs ws) {g : Nat} (hg : w.heap.size + 3 ≤ g) (new : Array Value) : MixIn w (wr.setRow g new) cs ws := by
  obtain ⟨h1, h2, ⟨z, hz, h3⟩, h4⟩ := h
  exact ⟨below_setRow h1 (by omega) new, h2.row_far (by omega) new, ⟨z, hz, h3.row_far (by omega) new⟩, h4.row_far (by omega) new⟩
theorem u32s_one (l : List Nat) : (u32s l).all (·.oneCell') = true := by
  unfold u32s; simp [Value.oneCell']
/-- A pointer to a block of the walk's own, that holds c once b. -/
def Holds (w0 w : World) (v : Value) (t : TypeId) (n : Nat) (b : Bool) (c : Array Value) : Prop :=
  ∃ (g : Nat) (z : Array Value), v = .pointer (some ⟨g, 0, none⟩) ∧ w0.heap.size + 3 ≤ g ∧ z.size = n ∧ Blk w g t z ∧ (b = true → z = c)
theorem Holds.alloc {w0 w : World} {v : Value} {t : TypeId} {n : Nat} {b : Bool} {c : Array Value} (h : Holds w0 w v t n b c) (o : Obj) : Holds w0 (w.alloc o) v t n b c := by
  obtain ⟨g, z, h1, h2, h3, h4, h5⟩ := h
  exact ⟨g, z, h1, h2, h3, h4.alloc o, h5⟩
theorem Holds.below {w0 w w2 : World} {v : Value} {t : TypeId} {n : Nat} {b : Bool} {c : Array Value} (h : Holds w0 w v t n b c) (hb : Below w.heap.size w w2) : Holds w0 w2 v t n b c := by
  obtain ⟨g, z, h1, h2, h3, h4, h5⟩ := h
  exact ⟨g, z, h1, h2, h3, h4.below hb h4.lt, h5⟩
theorem blk_ne {w : World} {g g' : Nat} {t t' : TypeId} {c c' : Array Value} (h : Blk w g t c) (h' : Blk w g' t' c') (ht : t ≠ t') : g ≠ g' := by
  rintro rfl
  unfold Blk at h h'
  rw [h] at h'
  cases h'
  exact ht rfl
theorem Holds.row {w0 w : World} {v : Value} {t : TypeId} {n : Nat} {b : Bool} {c : Array Value} (h : Holds w0 w v t n b c) {g : Nat} {t' : TypeId} {c' : Array Value} (hB : Blk w g t' c') (ht : t' ≠ t) (new : Array Value) : Holds w0 (w.setRow g new) v t n b c := by
  obtain ⟨g', z, h1, h2, h3, h4, h5⟩ := h
  exact ⟨g', z, h1, h2, h3, h4.row_far (blk_ne hB h4 ht) _, h5⟩
/-- What holds while the region runs. -/
def I12 (a0 : Act) (w : World) (cs ws : Array Value) (d : Nat → Bool) (a : Act) (w' : World) : Prop :=
  ∃ v98 v99 v10 v11 : Value, a = (((a0.put (some 98) v98).put (some 99) v99).put (some 10) v10).put (some 11) v11 ∧ MixIn w w' cs ws ∧ w.heap.size + 3 ≤ w'.heap.size ∧ (d 0 = true → v98 = .agg cs) ∧ (d 1 = true → v99 = .agg (u32s Sp.K)) ∧
    (d 2 = true → Holds w w' v10 33 8 (d 4) cs) ∧ (d 3 = true → Holds w w' v11 51 64 (d 5) (u32s Sp.K)) ∧ (d 4 = true → d 2 = true) ∧ (d 5 = true → d 3 = true)
set_option maxRecDepth 100000 in
theorem region12 {ops : Array Oper} {id : Nat} {Q : Exit → Act → World → Prop} {a0 : Act} {w wr : World} {cs ws : Array Value} (hn : ops.size = 6) (hback : backward ops = true)
    (e40 : edge ops 4 0 = true) (e42 : edge ops 4 2 = true) (e51 : edge ops 5 1 = true) (e53 : edge ops 5 3 = true)
    (o0 : bare ops 0 = some (.load 33 (.tmp 2), some 98, none)) (o1 : bare ops 1 = some (.call { callee := .value (.func 25), args := #[], argTypes := #[] }, some 99, none))
    (o2 : bare ops 2 = some (.alloc 33, some 10, none)) (o3 : bare ops 3 = some (.alloc 51, some 11, none))
    (o4 : bare ops 4 = some (.store 33 (.tmp 10) (.tmp 98), none, none)) (o5 : bare ops 5 = some (.store 51 (.tmp 11) (.tmp 99), none, none))
    (hsz : 99 < a0.tmps.size) (he2 : a0.eval (.tmp 2) = .pointer (some ⟨w.heap.size, 0, none⟩)) (hin : MixIn w wr cs ws) (hc8 : cs.size = 8) (hone : cs.all (·.oneCell') = true)
    (done : ∀ g10 g11 w', w.heap.size + 3 ≤ g10 → w.heap.size + 3 ≤ g11 → MixIn w w' cs ws → Blk w' g10 33 cs → Blk w' g11 51 (u32s Sp.K) →
      Q .normal ((((a0.put (some 98) (.agg cs)).put (some 99) (.agg (u32s Sp.K))).put (some 10) (.pointer (some ⟨g10, 0, none⟩))).put (some 11) (.pointer (some ⟨g11, 0, none⟩))) w') :
    (Code.region id ops true).wp Try.prog Q a0 wr := by
  have hs3 : w.heap.size + 3 ≤ wr.heap.size := by
    have := hin.2.2.2.lt
    omega
  refine wp_region_inv (by kernel_rfl) (I12 a0 w cs ws) ?_ ?_ ?_
  · exact ⟨a0.eval (.tmp 98), a0.eval (.tmp 99), a0.eval (.tmp 10), a0.eval (.tmp 11), by rw [put_self, put_self, put_self, put_self], hin.drew, hs3, nofun, nofun, nofun, nofun, nofun, nofun⟩
  · rintro i o d a1 w1 ho hd haf ⟨v98, v99, v10, v11, rfl, hin1, hs1, h98, h99, h10, h11, h42, h53⟩ K hK
    have hi6 : i < 6 := by rw [← hn]; exact (Array.getElem?_eq_some_iff.1 ho).1
    have e2 : ((((a0.put (some 98) v98).put (some 99) v99).put (some 10) v10).put (some 11) v11).eval (.tmp 2) = .pointer (some ⟨w.heap.size, 0, none⟩) := by
      rw [eval_ne _ (by decide), eval_ne _ (by decide), eval_ne _ (by decide), eval_ne _ (by decide)]; exact he2
    rcases i with _ | _ | _ | _ | _ | _ | i
    · refine bare_out ho o0 fun hop hdst => ?_
      refine wp_load_row _ _ hop w.heap.size e2 33 cs (0, 0) _ hin1.2.1 Try.underlying33 rfl (by rw [hc8]; kernel_rfl) (hK _ _ ⟨.agg cs, v99, v10, v11, ?_, hin1, hs1, fun _ => rfl, h99, h10, h11, h42, h53⟩)
      rw [hdst, put_to _ (by decide), put_to (x := 10) _ (by decide), put_to (x := 99) _ (by decide), put_same]
    · refine bare_out ho o1 fun hop hdst => ?_
      refine wp_call_fun _ _ _ hop (by kernel_rfl) #[] (by simp) ?_
      refine (rounds_calls _).mono ?_
      rintro e w2 ⟨rfl, hb⟩
      refine ⟨_, rfl, hK _ _ ⟨v98, .agg (u32s Sp.K), v10, v11, ?_, hin1.below hb, Nat.le_trans hs1 hb.size, h98, fun _ => rfl, fun h => (h10 h).below hb, fun h => (h11 h).below hb, h42, h53⟩⟩
      rw [hdst, put_to _ (by decide), put_to (x := 10) _ (by decide), put_same]
    · refine bare_out ho o2 fun hop hdst => ?_
      have h4 : d 4 = true → False := fun h => by have := h42 h; rw [hd] at this; cases this
      refine wp_alloc_agg _ hop (Array.replicate 8 (.int .u32 0)) (by kernel_rfl) (hK _ _ ⟨v98, v99, .pointer (some ⟨w1.heap.size, 0, none⟩), v11, ?_, hin1.alloc _, by simp; omega, h98, h99, fun _ => ⟨_, _, rfl, hs1, by simp, Blk.new _ _ _, fun h => (h4 h).elim⟩, fun h => (h11 h).alloc _, fun _ => rfl, h53⟩)
      rw [hdst, put_to _ (by decide), put_same]
    · refine bare_out ho o3 fun hop hdst => ?_
      have h5 : d 5 = true → False := fun h => by have := h53 h; rw [hd] at this; cases this
      refine wp_alloc_agg _ hop (Array.replicate 64 (.int .u32 0)) (by kernel_rfl) (hK _ _ ⟨v98, v99, v10, .pointer (some ⟨w1.heap.size, 0, none⟩), ?_, hin1.alloc _, by simp; omega, h98, h99, fun h => (h10 h).alloc _, fun _ => ⟨_, _, rfl, hs1, by simp, Blk.new _ _ _, fun h => (h5 h).elim⟩, h42, fun _ => rfl⟩)
      rw [hdst, put_same]
    · refine bare_out ho o4 fun hop hdst => ?_
      obtain ⟨g, z, rfl, hg, hz, hB, _⟩ := h10 (edge_on e42 ho haf)
      obtain rfl := h98 (edge_on e40 ho haf)
      refine wp_store_row _ _ _ hop g cs ?_ ?_ 33 z hB (by rw [hc8]; kernel_rfl) (by rw [hz, hc8]) hone (hK _ _ ⟨.agg cs, v99, .pointer (some ⟨g, 0, none⟩), v11, by rw [hdst]; rfl, hin1.row hg cs, by simpa using hs1, fun _ => rfl, h99, fun _ => ⟨g, cs, rfl, hg, hc8, hB.row cs, fun _ => rfl⟩, fun h => (h11 h).row hB (by decide) _, fun _ => edge_on e42 ho haf, h53⟩)
      · rw [eval_ne _ (by decide)]; exact eval_last _ 10 _ (by rw [put_size, put_size]; omega)
      · rw [eval_ne _ (by decide), eval_ne _ (by decide), eval_ne _ (by decide)]; exact eval_last _ 98 _ (by omega)
    · refine bare_out ho o5 fun hop hdst => ?_
      obtain ⟨g, z, rfl, hg, hz, hB, _⟩ := h11 (edge_on e53 ho haf)
      obtain rfl := h99 (edge_on e51 ho haf)
      refine wp_store_row _ _ _ hop g (u32s Sp.K) ?_ ?_ 51 z hB (by kernel_rfl) (by rw [hz]; rfl) (by kernel_rfl) (hK _ _ ⟨v98, .agg (u32s Sp.K), v10, .pointer (some ⟨g, 0, none⟩), by rw [hdst]; rfl, hin1.row hg _, by simpa using hs1, h98, fun _ => rfl, fun h => (h10 h).row hB (by decide) _, fun _ => ⟨g, _, rfl, hg, rfl, hB.row _, fun _ => rfl⟩, h42, fun _ => edge_on e53 ho haf⟩)
      · exact eval_last _ 11 _ (by rw [put_size, put_size, put_size]; omega)
      · rw [eval_ne _ (by decide), eval_ne _ (by decide)]; exact eval_last _ 99 _ (by rw [put_size]; omega)
    · omega
  · rintro d a1 w1 hd ⟨v98, v99, v10, v11, rfl, hin1, hs1, h98, h99, h10, h11, h42, h53⟩
    have D : ∀ i, i < 6 → d i = true := fun i hi => all_done hback hd 6 i hi (by rw [hn]; exact hi)
    obtain ⟨g10, z10, rfl, hg10, _, hB10, hz10⟩ := h10 (D 2 (by decide))
    obtain ⟨g11, z11, rfl, hg11, _, hB11, hz11⟩ := h11 (D 3 (by decide))
    obtain rfl := h98 (D 0 (by decide))
    obtain rfl := h99 (D 1 (by decide))
    obtain rfl := hz10 (D 4 (by decide))
    obtain rfl := hz11 (D 5 (by decide))
    exact done g10 g11 w1 hg10 hg11 hin1 hB10 hB11
end Go.Proofs.Ytblgldllfllcpaa
