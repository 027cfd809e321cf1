/- The plain facts behind the walk of the reference's Sum. -/
import Derived.Test.YtblgldllfllcpaaPadded
namespace Go.Proofs.Ytblgldllfllcpaa
open Go.RowKit
theorem p_eq (b : Nat) (hb : b < 4294967296) : bits .xor .i64 (bits .xor .i64 ((Sp.rotr b 7 : Nat) : Int) ((Sp.rotr b 18 : Nat) : Int)) ((b : Int) / 8) = ((Sp.s0 b : Nat) : Int) := by
  have h1 := Sp.rotr_lt b 7
  have h2 := Sp.rotr_lt b 18
  have h3 := Sp.xor_lt h1 h2
  rw [show (b : Int) / 8 = ((b / 8 : Nat) : Int) from by omega, i64_xor_nat _ _ (by omega) (by omega), i64_xor_nat _ _ (by omega) (by omega)]
  rfl
theorem q_eq (b : Nat) (hb : b < 4294967296) : bits .xor .i64 (bits .xor .i64 ((Sp.rotr b 17 : Nat) : Int) ((Sp.rotr b 19 : Nat) : Int)) ((b : Int) / 1024) = ((Sp.s1 b : Nat) : Int) := by
  have h1 := Sp.rotr_lt b 17
  have h2 := Sp.rotr_lt b 19
  have h3 := Sp.xor_lt h1 h2
  rw [show (b : Int) / 1024 = ((b / 1024 : Nat) : Int) from by omega, i64_xor_nat _ _ (by omega) (by omega), i64_xor_nat _ _ (by omega) (by omega)]
  rfl
theorem S1_eq (e : Nat) : bits .xor .i64 (bits .xor .i64 ((Sp.rotr e 6 : Nat) : Int) ((Sp.rotr e 11 : Nat) : Int)) ((Sp.rotr e 25 : Nat) : Int) = ((Sp.S1 e : Nat) : Int) := by
  have h1 := Sp.rotr_lt e 6
  have h2 := Sp.rotr_lt e 11
  have h4 := Sp.rotr_lt e 25
  have h3 := Sp.xor_lt h1 h2
  rw [i64_xor_nat _ _ (by omega) (by omega), i64_xor_nat _ _ (by omega) (by omega)]
  rfl
theorem S0_eq (e : Nat) : bits .xor .i64 (bits .xor .i64 ((Sp.rotr e 2 : Nat) : Int) ((Sp.rotr e 13 : Nat) : Int)) ((Sp.rotr e 22 : Nat) : Int) = ((Sp.S0 e : Nat) : Int) := by
  have h1 := Sp.rotr_lt e 2
  have h2 := Sp.rotr_lt e 13
  have h4 := Sp.rotr_lt e 22
  have h3 := Sp.xor_lt h1 h2
  rw [i64_xor_nat _ _ (by omega) (by omega), i64_xor_nat _ _ (by omega) (by omega)]
  rfl
theorem ch_eq (e f g : Nat) (he : e < 4294967296) (hf : f < 4294967296) (hg : g < 4294967296) :
    bits .or .i64 (bits .and .i64 (e : Int) (f : Int)) (bits .and .i64 (4294967295 - (e : Int)) (g : Int)) = ((Sp.ch e f g : Nat) : Int) := by
  have h1 := Sp.and_lt (a := e) hf
  have h2 := Sp.and_lt (a := 4294967295 - e) hg
  rw [show 4294967295 - (e : Int) = ((4294967295 - e : Nat) : Int) from by omega, i64_and_nat _ _ (by omega) (by omega), i64_and_nat _ _ (by omega) (by omega), i64_or_nat _ _ (by omega) (by omega), Sp.ch_or he]
theorem maj_eq (a b c : Nat) (ha : a < 4294967296) (hb : b < 4294967296) (hc : c < 4294967296) :
    bits .or .i64 (bits .or .i64 (bits .and .i64 (a : Int) (b : Int)) (bits .and .i64 (a : Int) (c : Int))) (bits .and .i64 (b : Int) (c : Int)) = ((Sp.maj a b c : Nat) : Int) := by
  have h1 := Sp.and_lt (a := a) hb
  have h2 := Sp.and_lt (a := a) hc
  have h3 := Sp.and_lt (a := b) hc
  have h4 := Sp.or_lt h1 h2
  rw [i64_and_nat _ _ (by omega) (by omega), i64_and_nat _ _ (by omega) (by omega), i64_and_nat _ _ (by omega) (by omega), i64_or_nat _ _ (by omega) (by omega), i64_or_nat _ _ (by omega) (by omega), Sp.maj_or]
theorem mask8 (n : Nat) (hn : n < 9223372036854775808) : bits .and .i64 (n : Int) 255 = ((n % 256 : Nat) : Int) := by
  rw [show (255 : Int) = ((255 : Nat) : Int) from rfl, i64_and_nat _ _ hn (by decide)]
  have := Nat.and_two_pow_sub_one_eq_mod n 8
  rw [show 2 ^ 8 - 1 = 255 from rfl] at this
  rw [this]
namespace Sp
/-- The schedule, i words of it. -/
def sch (x : List Nat) (i : Nat) : List Nat := if i ≤ 16 then x.take i else ext (i - 16) x
theorem sch_zero (x : List Nat) : sch x 0 = [] := by simp [sch]
theorem sch_length {x : List Nat} (hx : x.length = 16) (i : Nat) : (sch x i).length = i := by
  unfold sch
  split
  · rw [List.length_take]; omega
  · rw [ext_length]; omega
theorem sch_lo {x : List Nat} (hx : x.length = 16) {i : Nat} (h : i < 16) : sch x (i + 1) = sch x i ++ [x.getD i 0] := by
  unfold sch
  rw [if_pos (by omega), if_pos (by omega), List.take_add_one, List.getD_eq_getElem?_getD, List.getElem?_eq_getElem (by omega)]
  rfl
theorem sch_hi {x : List Nat} (hx : x.length = 16) {i : Nat} (h : 16 ≤ i) : sch x (i + 1) = sch x i ++ [next (sch x i)] := by
  unfold sch
  rw [if_neg (by omega)]
  obtain ⟨m, rfl⟩ : ∃ m, i = 16 + m := ⟨i - 16, by omega⟩
  rw [show 16 + m + 1 - 16 = m + 1 from by omega, ext]
  by_cases hm : m = 0
  · subst hm
    rw [if_pos (by omega), List.take_of_length_le (by omega)]
    rfl
  · rw [if_neg (by omega), show 16 + m - 16 = m from by omega]
theorem sch_lt {x : List Nat} (h : allLt x) (i : Nat) : allLt (sch x i) := by
  unfold sch
  split
  · intro y hy; exact h y (List.mem_of_mem_take hy)
  · exact ext_lt _ _ h
theorem sch_all (x : List Nat) : sch x 64 = ext 48 x := by unfold sch; rw [if_neg (by omega)]
/-- The words of block q. -/
def blk16 (t : List Nat) (q : Nat) : List Nat := w16 fun j => (t.drop (64 * q)).getD j 0
theorem blk16_length (t : List Nat) (q : Nat) : (blk16 t q).length = 16 := w16_length _
theorem drop_getD (t : List Nat) (a j : Nat) : (t.drop a).getD j 0 = t.getD (a + j) 0 := by
  rw [List.getD_eq_getElem?_getD, List.getD_eq_getElem?_getD, List.getElem?_drop]
theorem blk16_lt {t : List Nat} (h : ∀ x ∈ t, x < 256) (q : Nat) : allLt (blk16 t q) := by
  refine w16_lt fun j => ?_
  rw [drop_getD, List.getD_eq_getElem?_getD]
  cases hj : t[64 * q + j]? with
  | none => simp
  | some x => exact h x (List.mem_of_getElem? hj)
theorem wordsUp_at (t : List Nat) {n q i : Nat} (hi : i < 16) (hn : 16 * q + i < n) : (wordsUp t n).getD (16 * q + i) 0 = (blk16 t q).getD i 0 := by
  unfold wordsUp blk16 w16
  rw [List.getD_eq_getElem?_getD, List.getElem?_map, List.getElem?_range hn, List.getD_eq_getElem?_getD, List.getElem?_map, List.getElem?_range hi]
  simp only [Option.map_some, Option.getD_some]
  unfold word4 wd
  simp only [drop_getD]
  rw [show 4 * (16 * q + i) = 64 * q + 4 * i from by omega]
  rfl
end Sp
/-- What the outer loop keeps. -/
def RS (w wr : World) (pb po n : Nat) (L : List Nat) (st : Sp.St) : Prop :=
  Below w.heap.size w wr ∧ Blk wr w.heap.size 3 (i64c st.list).toArray ∧ Blk wr (w.heap.size + 1) 3 (i64c Sp.K).toArray ∧ w.heap.size < pb ∧ pb < wr.heap.size ∧ ∀ j, j < n → wr.cell? ⟨pb, po + j, none⟩ = some (.int .i64 ((L.getD j 0 : Nat) : Int))
section
variable {w wr w2 : World} {pb po n : Nat} {L : List Nat} {st : Sp.St}
theorem RS.below (h : RS w wr pb po n L st) (hb : Below wr.heap.size wr w2) : RS w w2 pb po n L st := by
  obtain ⟨h1, h2, h3, h4, h5, h6⟩ := h
  exact ⟨below_next h1 hb, h2.below hb h2.lt, h3.below hb h3.lt, h4, Nat.lt_of_lt_of_le h5 hb.size, fun j hj => (below_cell hb h5).trans (h6 j hj)⟩
theorem RS.drewN (h : RS w wr pb po n L st) (k : Nat) : RS w (wr.drewN k) pb po n L st := by
  obtain ⟨h1, h2, h3, h4, h5, h6⟩ := h
  exact ⟨below_draw h1 k, h2.drewN k, h3.drewN k, h4, h5, h6⟩
end
/-- With the schedule. -/
def RT (w wr : World) (pb po n : Nat) (L : List Nat) (st : Sp.St) (wb wo : Nat) (X : List Nat) : Prop :=
  RS w wr pb po n L st ∧ wb < wr.heap.size ∧ w.heap.size < wb ∧ ∀ j, j < 64 → wr.cell? ⟨wb, wo + j, none⟩ = some (.int .i64 ((X.getD j 0 : Nat) : Int))
theorem RT.drewN {w wr : World} {pb po n : Nat} {L : List Nat} {st : Sp.St} {wb wo : Nat} {X : List Nat} (h : RT w wr pb po n L st wb wo X) (k : Nat) : RT w (wr.drewN k) pb po n L st wb wo X :=
  ⟨h.1.drewN k, h.2.1, h.2.2.1, h.2.2.2⟩
/-- The last loop of a block: j words added. -/
def RU (w wr : World) (pb po n : Nat) (L : List Nat) (st s : Sp.St) (nb j : Nat) : Prop :=
  Below w.heap.size w wr ∧ Blk wr w.heap.size 3 (i64c (pl st.list s.list j)).toArray ∧ Blk wr (w.heap.size + 1) 3 (i64c Sp.K).toArray ∧ w.heap.size < pb ∧ pb < wr.heap.size ∧ (∀ j, j < n → wr.cell? ⟨pb, po + j, none⟩ = some (.int .i64 ((L.getD j 0 : Nat) : Int))) ∧
    w.heap.size < nb ∧ Blk wr nb 3 (i64c s.list).toArray
theorem RU.start {w wr : World} {pb po n : Nat} {L : List Nat} {st : Sp.St} (h : RS w wr pb po n L st) (s : Sp.St) : RU w (wr.alloc (.cells (i64c s.list).toArray 3)) pb po n L st s wr.heap.size 0 := by
  have h' := h.below ((Below.refl _ _).alloc (Nat.le_refl _) (.cells (i64c s.list).toArray 3))
  obtain ⟨h1, h2, h3, h4, h5, h6⟩ := h'
  refine ⟨h1, h2, h3, h4, h5, h6, ?_, Blk.new _ _ _⟩
  have := h.2.1.lt
  omega
theorem RU.step {w wr : World} {pb po n : Nat} {L : List Nat} {st s : Sp.St} {nb j : Nat} (h : RU w wr pb po n L st s nb j) :
    RU w (wr.drew.setCell ⟨w.heap.size, j, none⟩ (.int .i64 (((st.list.getD j 0 + s.list.getD j 0) % 4294967296 : Nat) : Int))) pb po n L st s nb (j + 1) := by
  obtain ⟨h1, h2, h3, h4, h5, h6, h7, h8⟩ := h
  refine ⟨h1.drew.setCell (p := ⟨w.heap.size, j, none⟩) (Nat.le_refl _) _, ?_, h3.drew.far (by omega) _, h4, by simpa using h5, fun i hi => ?_, h7, h8.drew.far (by omega) _⟩
  · have := h2.drew.set_ j (.int .i64 (((st.list.getD j 0 + s.list.getD j 0) % 4294967296 : Nat) : Int))
    rw [List.setIfInBounds_toArray, i64c_set, pl_set] at this
    exact this
  · rw [← h6 i hi]
    have e : (wr.drew.setCell ⟨w.heap.size, j, none⟩ (.int .i64 (((st.list.getD j 0 + s.list.getD j 0) % 4294967296 : Nat) : Int))).heap[pb]? = wr.heap[pb]? := heap_setCell_other wr.drew ⟨w.heap.size, j, none⟩ pb _ (by show pb ≠ w.heap.size; omega)
    exact World.cell?_of_block (a := ⟨pb, po + i, none⟩) e
theorem RU.done {w wr : World} {pb po n : Nat} {L : List Nat} {st s : Sp.St} {nb : Nat} (h : RU w wr pb po n L st s nb 8) : RS w wr pb po n L (Sp.plus st s) := by
  obtain ⟨h1, h2, h3, h4, h5, h6, _⟩ := h
  exact ⟨h1, by rw [pl_done] at h2; exact h2, h3, h4, h5, h6⟩
end Go.Proofs.Ytblgldllfllcpaa
