/- The reference's ledger in memory; Copy, Refused. -/
import Derived.Test.YthhjockofihohaaRefL
import Derived.Test.YthhjockofihohaaOwnK
namespace Go.Proofs.Ythhjockofihohaa
open Go.RowKit
/-- The accounts lie from A on. -/
def RAt (w : World) (A : Option Addr) (y : Led) : Prop := ∃ b o, A = some ⟨b, o, none⟩ ∧ b < w.heap.size ∧ ∀ j, j < y.n * 12 → w.cell? ⟨b, o + j, none⟩ = (lcells y)[j]?
/-- .. and may be written, in a block that was made behind w0. -/
def ROwn (w0 w : World) (b o c : Nat) (y : Led) : Prop := w0.heap.size ≤ b ∧ b < w.heap.size ∧ y.n ≤ c ∧ ∀ j, j < y.n * 12 → w.cell? ⟨b, o + j, none⟩ = (lcells y)[j]? ∧ w.frozen? ⟨b, o + j, none⟩ = false
section
variable {w0 w w' : World} {A : Option Addr} {b o c : Nat} {y : Led}
theorem RAt.below (h : RAt w A y) (hb : Below w.heap.size w w') : RAt w' A y := by
  obtain ⟨b, o, h1, h2, h3⟩ := h
  exact ⟨b, o, h1, Nat.lt_of_lt_of_le h2 hb.size, fun j hj => by rw [← h3 j hj]; exact below_cell hb h2⟩
theorem RAt.num (h : RAt w A y) : ∃ b o, A = some ⟨b, o, none⟩ ∧ b < w.heap.size ∧ ∀ i k, i < y.n → k < 11 → w.cell? ⟨b, o + i * 12 + k, none⟩ = some (.int .i64 (y.z i k)) := by
  obtain ⟨b, o, h1, h2, h3⟩ := h
  exact ⟨b, o, h1, h2, fun i k hi hk => by rw [Nat.add_assoc, h3 _ (by omega), lcells_num y hi hk]⟩
theorem ROwn.rat (h : ROwn w0 w b o c y) : RAt w (some ⟨b, o, none⟩) y := ⟨b, o, rfl, h.2.1, fun j hj => (h.2.2.2 j hj).1⟩
theorem ROwn.num (h : ROwn w0 w b o c y) {i k : Nat} (hi : i < y.n) (hk : k < 11) : w.cell? ⟨b, o + i * 12 + k, none⟩ = some (.int .i64 (y.z i k)) ∧ w.frozen? ⟨b, o + i * 12 + k, none⟩ = false := by
  have := h.2.2.2 (i * 12 + k) (by omega)
  rw [lcells_num y hi hk] at this
  rw [Nat.add_assoc]; exact this
theorem ROwn.text (h : ROwn w0 w b o c y) {i : Nat} (hi : i < y.n) : w.cell? ⟨b, o + i * 12 + 11, none⟩ = some (.string (y.r i)) ∧ w.frozen? ⟨b, o + i * 12 + 11, none⟩ = false := by
  have := h.2.2.2 (i * 12 + 11) (by omega)
  rw [lcells_text y hi] at this
  rw [Nat.add_assoc]; exact this
theorem ROwn.carry (h : ROwn w0 w b o c y) (hs : w.heap.size ≤ w'.heap.size) (hb : w'.heap[b]? = w.heap[b]?) : ROwn w0 w' b o c y :=
  ⟨h.1, Nat.lt_of_lt_of_le h.2.1 hs, h.2.2.1, fun j hj => by rw [World.cell?_of_block (a := ⟨b, o + j, none⟩) hb, World.frozen?_of_block (a := ⟨b, o + j, none⟩) hb]; exact h.2.2.2 j hj⟩
theorem ROwn.below (h : ROwn w0 w b o c y) (hb : Below w.heap.size w w') : ROwn w0 w' b o c y := h.carry hb.size (hb.block b h.2.1)
/-- A cell of one's own is written. -/
theorem ROwn.put (h : ROwn w0 w b o c y) {q : Nat} (hq : q < y.n * 12) (v : Value) {y' : Led} (hn : y'.n = y.n) (hc : (lcells y).set q v = lcells y') : ROwn w0 (w.setCell ⟨b, o + q, none⟩ v) b o c y' := by
  obtain ⟨h1, h2, h3, h4⟩ := h
  refine ⟨h1, by simpa using h2, by rw [hn]; exact h3, fun j hj => ⟨?_, ?_⟩⟩
  · rw [hn] at hj
    rw [← hc, List.getElem?_set]
    by_cases e : q = j
    · subst e
      rw [if_pos rfl, if_pos (by rw [lcells_length]; exact hq)]
      refine World.cell?_setCell_same' _ _ _ ?_
      rw [(h4 q hq).1, List.getElem?_eq_getElem (by rw [lcells_length]; exact hq)]; rfl
    · rw [if_neg e, World.cell?_setCell_other _ _ _ _ (by simp)]
      exact (h4 j hj).1
  · rw [hn] at hj
    rw [World.frozen?_setCell]
    exact (h4 j hj).2
theorem Mine.rown {n c : Nat} (h : Mine w0 w 12 (.slice A n c) n (lcells y)) (hn : y.n = n) (h0 : 0 < n) : ∃ b o, A = some ⟨b, o, none⟩ ∧ ROwn w0 w b o c y := by
  obtain ⟨b, ⟨h1, A', c', heq, h2, h3, h4⟩, hb⟩ := h
  cases heq
  rcases h4 with ⟨_, h4⟩ | ⟨g, off, rfl, rfl, hg, h5, h6⟩
  · omega
  · exact ⟨g, off, rfl, hb g rfl, hg, by omega, fun j hj => ⟨h6 j (by rw [← hn]; exact hj), (h5 j (by rw [hn] at hj; omega)).2⟩⟩
theorem lcells_one (y : Led) : ∀ u ∈ lcells y, u.oneCell' = true := by
  intro u hu
  unfold lcells at hu
  obtain ⟨j, _, rfl⟩ := List.mem_map.1 hu
  split <;> rfl
theorem RAt.src (h : RAt w A y) (c : Nat) : Src Try.prog 12 42 (.slice A y.n c) y.n (lcells y) w := by
  obtain ⟨b, o, rfl, h2, h3⟩ := h
  refine Src.ofSlice _ Try.underlying42 ⟨b, o, none⟩ y.n c (lcells y) (lcells_length y) (fun j u hu => ?_) (lcells_one y)
  have hj : j < y.n * 12 := by
    have := (List.getElem?_eq_some_iff.1 hu).1
    rwa [lcells_length] at this
  rw [show (⟨b, o, none⟩ : Addr).add j = ⟨b, o + j, none⟩ from by simp [Addr.add_lit], h3 j hj, hu]
end
theorem info_acc : (Try.prog.info? 69).map (fun i => (i.zero, i.size, i.bytes)) = some (some (.agg #[.int .i64 0, .int .i64 0, .int .i64 0, .int .i64 0, .int .i64 0, .int .i64 0, .int .i64 0, .int .i64 0, .int .i64 0, .int .i64 0, .int .i64 0, .string ⟨#[]⟩]), 12, 104) := by kernel_rfl
theorem copy_calls {w : World} {A : Option Addr} {y : Led} (h : RAt w A y) (hn : 1 ≤ y.n ∧ y.n ≤ 16) (c : Nat) (gd : Int) :
    Calls Try.prog 41 #[.agg #[.int .i64 gd, .slice A y.n c]] w fun e w' => ∃ b o c', e = .returned (.agg #[.int .i64 gd, .slice (some ⟨b, o, none⟩) y.n c']) ∧ ROwn w w' b o c' y ∧ Below w.heap.size w w' := by
  have H := Lib.hid h
  obtain ⟨i1, hi1, hy0, hy1, hy2⟩ := info_parts info_acc
  have HI1 := Lib.hid hi1
  have HY0 := Lib.hid hy0
  have HY1 := Lib.hid hy1
  have HY2 := Lib.hid hy2
  clear hi1 hy0 hy1 hy2 h
  obtain ⟨n, hnn⟩ : ∃ n, Hid (y.n = n) := ⟨_, Lib.hid rfl⟩
  have HS : Hid (∀ wx, Below w.heap.size w wx → Src Try.prog 12 42 (.slice A n c) n (lcells y) wx) := Lib.hid fun wx hb => by rw [← hnn.out]; exact (H.out.below hb).src c
  rw [hnn.out] at hn ⊢
  obtain ⟨hn0, hn1⟩ := hn
  have hb0 : Hid (Below w.heap.size w ((w.alloc (.cells #[.int .i64 gd, .slice A n c] 44)).alloc (.cells #[.int .i64 0, .slice none 0 0] 44))) := Lib.hid (((Below.refl _ _).alloc (Nat.le_refl _) _).alloc (by simp) _)
  go_enter Try.func41, Try.ntmps41
  go_upto_region 2 with (fail)
  have B1 : Hid (Blk ((w.alloc (.cells #[.int .i64 gd, .slice A n c] 44)).alloc (.cells #[.int .i64 0, .slice none 0 0] 44)) w.heap.size 44 #[.int .i64 gd, .slice A n c]) := Lib.hid ((Blk.new _ _ _).alloc _)
  have B2 : Hid (Blk ((w.alloc (.cells #[.int .i64 gd, .slice A n c] 44)).alloc (.cells #[.int .i64 0, .slice none 0 0] 44)) (w.heap.size + 1) 44 #[.int .i64 0, .slice none 0 0]) := Lib.hid (by have := Blk.new (w.alloc (.cells #[.int .i64 gd, .slice A n c] 44)) 44 #[.int .i64 0, .slice none 0 0]; simpa using this)
  obtain ⟨g1, hg1⟩ : ∃ g1, w.heap.size = g1 := ⟨_, rfl⟩
  have HG := Lib.hid hg1
  rw [hg1] at B1 B2 ⊢
  clear hg1
  generalize World.alloc (World.alloc w _) _ = wy at hb0 B1 B2 ⊢
  have c1 : wy.cell? ⟨g1, 1, none⟩ = some (.slice A n c) := B1.out.cell 1
  have HS2 := Lib.hid (HS.out _ hb0.out)
  go_upto_region 3 with (first
    | (refine wpList_append_mine rfl (.tmp 4) (.tmp 6) 42 42 rfl 69 i1 (.agg #[.int .i64 0, .int .i64 0, .int .i64 0, .int .i64 0, .int .i64 0, .int .i64 0, .int .i64 0, .int .i64 0, .int .i64 0, .int .i64 0, .int .i64 0, .string ⟨#[]⟩]) 104 Try.underlying42 HI1.out HY0.out HY1.out HY2.out rfl (by decide) rfl (Mine.empty wy _ 12 _) (Below.refl _ _) _ n (lcells y) rfl HS2.out (by unfold maxLen; omega) (by omega) ?_; intro A3 c3 w3 hm3 hb3; have HM3 := Lib.hid hm3; have HB3 := Lib.hid hb3; clear hm3 hb3))
  rw [Nat.zero_add, List.nil_append] at HM3
  obtain ⟨b, o, hAe, hown⟩ := HM3.out.rown hnn.out (by omega)
  subst hAe
  have HO := Lib.hid hown
  have B3 := Lib.hid (B1.out.below HB3.out B1.out.lt)
  have B4 := Lib.hid (B2.out.below HB3.out B2.out.lt)
  have hne : Hid (b ≠ g1 + 1) := Lib.hid (by have := hown.1; have := B2.out.lt; omega)
  have d0 : w3.cell? ⟨g1, 0, none⟩ = some (.int .i64 gd) := B3.out.cell 0
  have e0 : w3.cell? ⟨g1 + 1, 0, none⟩ = some (.int .i64 0) := B4.out.cell 0
  have e1 : w3.cell? ⟨g1 + 1, 1, none⟩ = some (.slice none 0 0) := B4.out.cell 1
  have f0 := B4.out.frozen 0
  have f1 := B4.out.frozen 1
  clear c1 hown HM3
  go_wp2
  (try simp only [Exit.inBlock, Exit.then])
  refine bodyPost_ret (by simp [results, Try.results41, asAddr, go_sem, e0, e1]; rfl) rfl ?_
  refine ⟨b, o, c3, rfl, ?_, ?_⟩
  · have hO : ROwn w w3 b o c3 y := ⟨Nat.le_trans hb0.out.size HO.out.1, HO.out.2⟩
    exact hO.carry (by simp) ((heap_setCell_other _ ⟨g1 + 1, 1, none⟩ b _ hne.out).trans (heap_setCell_other _ ⟨g1 + 1, 0, none⟩ b _ hne.out))
  · exact ((below_next hb0.out HB3.out).setCell (by rw [HG.out]; exact Nat.le_succ _) _).setCell (by rw [HG.out]; exact Nat.le_succ _) _
end Go.Proofs.Ythhjockofihohaa
