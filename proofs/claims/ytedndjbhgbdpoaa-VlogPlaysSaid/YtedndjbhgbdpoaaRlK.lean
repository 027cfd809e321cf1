/- What the reference keeps, in memory: a row of proofs; where a new one goes. -/
import Derived.Test.YtedndjbhgbdpoaaRlY
namespace Go.Proofs.Ytedndjbhgbdpoaa
open Go.RowKit
set_option linter.unusedSimpArgs false
def kvcells (L : List (Kb × Value)) : List Value := L.flatMap fun p => kcell p.1 p.2
def kv0 : Kb × Value := (Kb.none, .slice none 0 0)
theorem kvcells_length (L : List (Kb × Value)) : (kvcells L).length = L.length * 8 := by
  induction L with
  | nil => rfl
  | cons p l ih => unfold kvcells at *; rw [List.flatMap_cons, List.length_append, ih, List.length_cons]; simp [kcell]; omega
theorem kvcells_append (L M : List (Kb × Value)) : kvcells (L ++ M) = kvcells L ++ kvcells M := by unfold kvcells; rw [List.flatMap_append]
theorem kvcells_get (L : List (Kb × Value)) {i j : Nat} (hi : i < L.length) (hj : j < 8) : (kvcells L).getD (i * 8 + j) (.bool false) = (kcell (L.getD i kv0).1 (L.getD i kv0).2).getD j (.bool false) := by
  induction L generalizing i with
  | nil => simp at hi
  | cons s L ih =>
    have e : kvcells (s :: L) = kcell s.1 s.2 ++ kvcells L := rfl
    rw [e]
    cases i with
    | zero =>
      simp only [List.getD_eq_getElem?_getD, Nat.zero_mul, Nat.zero_add]
      rw [List.getElem?_append_left (by simp [kcell]; omega)]; rfl
    | succ i =>
      have := ih (i := i) (by simpa using hi)
      rw [show (i + 1) * 8 + j = (i * 8 + j) + 8 from by omega]
      simp only [List.getD_eq_getElem?_getD] at *
      rw [List.getElem?_append_right (by simp [kcell])]
      simpa [kcell] using this
/-- The list of a proof. -/
def KVal (w : World) (p : Kb × Value) : Prop := ∃ A c, p.2 = .slice A p.1.list.length c ∧ SRow w A p.1.list
theorem KVal.below {w w' : World} {p : Kb × Value} (h : KVal w p) (hb : Below w.heap.size w w') : KVal w' p := by
  obtain ⟨A, c, h1, h2⟩ := h
  exact ⟨A, c, h1, h2.below hb⟩
theorem kv_one {w : World} {L : List (Kb × Value)} (h : ∀ p ∈ L, KVal w p) : ∀ u ∈ kvcells L, u.oneCell' = true := by
  intro u hu
  unfold kvcells at hu
  obtain ⟨p, hp, hs⟩ := List.mem_flatMap.1 hu
  obtain ⟨A, c, h1, _⟩ := h p hp
  unfold kcell at hs
  rw [h1] at hs
  simp only [List.mem_cons, List.not_mem_nil, or_false] at hs
  rcases hs with rfl | rfl | rfl | rfl | rfl | rfl | rfl | rfl <;> rfl
def KVRow (w : World) (B : Option Addr) (L : List (Kb × Value)) : Prop := Row w B (L.length * 8) (fun j => (kvcells L).getD j (.bool false)) ∧ ∀ p ∈ L, KVal w p
def KRow (w : World) (B : Option Addr) (K : List Kb) : Prop := ∃ L : List (Kb × Value), L.map Prod.fst = K ∧ KVRow w B L
theorem KVRow.below {w w' : World} {B : Option Addr} {L : List (Kb × Value)} (h : KVRow w B L) (hb : Below w.heap.size w w') : KVRow w' B L :=
  ⟨Row.below h.1 hb, fun p hp => (h.2 p hp).below hb⟩
theorem KRow.below {w w' : World} {B : Option Addr} {K : List Kb} (h : KRow w B K) (hb : Below w.heap.size w w') : KRow w' B K := by
  obtain ⟨L, h1, h2⟩ := h
  exact ⟨L, h1, h2.below hb⟩
theorem KRow.nil (w : World) (B : Option Addr) : KRow w B [] := ⟨[], rfl, .inl rfl, fun _ h => nomatch h⟩
theorem KVRow.cells {w : World} {B : Option Addr} {L : List (Kb × Value)} (h : KVRow w B L) {i : Nat} (hi : i < L.length) : ∃ b o, B = some ⟨b, o, none⟩ ∧ ∀ w', Below w.heap.size w w' → ∀ j, j < 8 → w'.cell? ⟨b, o + i * 8 + j, none⟩ = some ((kcell (L.getD i kv0).1 (L.getD i kv0).2).getD j (.bool false)) := by
  obtain ⟨b, o, e, _⟩ := Row.at_ h.1 (k := i * 8) (by omega)
  refine ⟨b, o, e, fun w' hb j hj => ?_⟩
  obtain ⟨b', o', e', h1, h2⟩ := Row.at_ h.1 (k := i * 8 + j) (by omega)
  rw [e] at e'; cases e'
  rw [← kvcells_get L hi hj, Nat.add_assoc]; exact (below_cell hb h1).trans h2
theorem Mine.kvrow {w0 w : World} {A : Option Addr} {c m : Nat} {L : List (Kb × Value)} (h : Mine w0 w 8 (.slice A m c) m (kvcells L)) (hm : L.length = m) (hv : ∀ p ∈ L, KVal w p) : m ≤ c ∧ KVRow w A L := by
  obtain ⟨A', c', e, h1, _, h3⟩ := h.row
  cases e
  refine ⟨h1, ?_, hv⟩
  rw [hm]; exact h3
theorem kv_src_take {w0 w w1 : World} {b o m c : Nat} {F : List (Kb × Value)} (h : Mine w0 w 8 (.slice (some ⟨b, o, none⟩) m c) m (kvcells F)) (hm : F.length = m) (hv : ∀ p ∈ F, KVal w1 p) {kk : Nat} (hk : kk ≤ m) (c2 : Nat) : Src Try.prog 8 42 (.slice (some ⟨b, o, none⟩) kk c2) kk (kvcells (F.take kk)) w := by
  have hl : (kvcells (F.take kk)).length = kk * 8 := by rw [kvcells_length, List.length_take, hm, Nat.min_eq_left hk]
  refine Src.ofSlice _ Try.underlying42 ⟨b, o, none⟩ kk c2 (kvcells (F.take kk)) hl (fun j u hu => ?_) (kv_one fun p hp => hv p (List.mem_of_mem_take hp))
  have hj : j < kk * 8 := by rw [← hl]; exact (List.getElem?_eq_some_iff.1 hu).1
  obtain ⟨b', ⟨_, A', c', heq, _, _, h3⟩, _⟩ := h
  cases heq
  rcases h3 with ⟨_, h4⟩ | ⟨g, off, _, e, _, _, h6⟩
  · omega
  · cases e
    rw [show (⟨b, o, none⟩ : Addr).add j = ⟨b, o + j, none⟩ from by simp [Addr.add_lit], h6 j (by omega), ← hu]
    have e2 : kvcells F = kvcells (F.take kk) ++ kvcells (F.drop kk) := by rw [← kvcells_append, List.take_append_drop]
    rw [e2, List.getElem?_append_left (by omega)]
theorem kv_src_drop {w0 w w1 : World} {b o m c : Nat} {F : List (Kb × Value)} (h : Mine w0 w 8 (.slice (some ⟨b, o, none⟩) m c) m (kvcells F)) (hm : F.length = m) (hv : ∀ p ∈ F, KVal w1 p) {kk : Nat} (hk : kk ≤ m) (ad : Addr) (had : kk < m → ad = ⟨b, o + kk * 8, none⟩) (c2 : Nat) : Src Try.prog 8 42 (.slice (some ad) (m - kk) c2) (m - kk) (kvcells (F.drop kk)) w := by
  have hl : (kvcells (F.drop kk)).length = (m - kk) * 8 := by rw [kvcells_length, List.length_drop, hm]
  refine Src.ofSlice _ Try.underlying42 ad (m - kk) c2 (kvcells (F.drop kk)) hl (fun j u hu => ?_) (kv_one fun p hp => hv p (List.mem_of_mem_drop hp))
  have hj : j < (m - kk) * 8 := by rw [← hl]; exact (List.getElem?_eq_some_iff.1 hu).1
  rw [had (by omega)]
  obtain ⟨b', ⟨_, A', c', heq, _, _, h3⟩, _⟩ := h
  cases heq
  rcases h3 with ⟨_, h4⟩ | ⟨g, off, _, e, _, _, h6⟩
  · omega
  · cases e
    have hj2 : kk * 8 + j < m * 8 := by omega
    rw [show (⟨b, o + kk * 8, none⟩ : Addr).add j = ⟨b, o + (kk * 8 + j), none⟩ from by simp [Addr.add_lit, Nat.add_assoc], h6 (kk * 8 + j) hj2, ← hu]
    have e2 : kvcells F = kvcells (F.take kk) ++ kvcells (F.drop kk) := by rw [← kvcells_append, List.take_append_drop]
    have e3 : (kvcells (F.take kk)).length = kk * 8 := by rw [kvcells_length, List.length_take, hm, Nat.min_eq_left hk]
    rw [e2, List.getElem?_append_right (by omega), e3, Nat.add_sub_cancel_left]
namespace Rl
def tw (K : List Kb) (s : Int) (k : Nat) : Nat := ((K.take k).reverse.takeWhile fun z => decide (s < z.seq)).length
theorem tw_zero (K : List Kb) (s : Int) : tw K s 0 = 0 := by unfold tw; simp
theorem tw_step (K : List Kb) (s : Int) {k : Nat} (hk : k < K.length) : tw K s (k + 1) = if s < (K.getD k Kb.none).seq then tw K s k + 1 else 0 := by
  unfold tw
  rw [List.take_succ_eq_append_getElem hk, List.reverse_append, List.getD_eq_getElem?_getD, List.getElem?_eq_getElem hk]
  simp only [Option.getD_some, List.reverse_cons, List.reverse_nil, List.nil_append, List.singleton_append, List.takeWhile_cons]
  by_cases h : s < K[k].seq
  · rw [if_pos h]; simp [h]
  · rw [if_neg h]; simp [h]
theorem tw_le (K : List Kb) (s : Int) (k : Nat) : tw K s k ≤ k := by
  unfold tw
  have h1 := (List.takeWhile_sublist (l := (K.take k).reverse) (fun z : Kb => decide (s < z.seq))).length_le
  rw [List.length_reverse, List.length_take] at h1
  omega
theorem getD_fst (F : List (Kb × Value)) {j : Nat} (hj : j < F.length) : (F.map Prod.fst).getD j Kb.none = (F.getD j kv0).1 := by
  rw [List.getD_eq_getElem?_getD, List.getD_eq_getElem?_getD, List.getElem?_map, List.getElem?_eq_getElem hj]; rfl
theorem slip_tw (K : List Kb) (b : Kb) : slip K b = K.take (K.length - tw K b.seq K.length) ++ b :: K.drop (K.length - tw K b.seq K.length) := by
  unfold slip tw
  rw [List.take_length]
/-- What of the pairs is not of a number. -/
def others (L : List (Kb × Value)) (s : Int) : List (Kb × Value) := L.filter fun p => decide (p.1.seq ≠ s)
theorem others_fst (L : List (Kb × Value)) (s : Int) : (others L s).map Prod.fst = (L.map Prod.fst).filter fun k => decide (k.seq ≠ s) := by
  unfold others
  rw [List.filter_map]; rfl
theorem others_snoc (L : List (Kb × Value)) (s : Int) {i : Nat} (hi : i < L.length) : others (L.take (i + 1)) s = others (L.take i) s ++ (if (L.getD i kv0).1.seq = s then [] else [L.getD i kv0]) := by
  unfold others
  rw [List.take_succ_eq_append_getElem hi, List.filter_append, List.getD_eq_getElem?_getD, List.getElem?_eq_getElem hi]
  congr 1
  simp only [Option.getD_some]
  by_cases h : L[i].1.seq = s
  · rw [if_pos h, List.filter_cons_of_neg (by simp [h])]; rfl
  · rw [if_neg h, List.filter_cons_of_pos (by simp [h])]; rfl
theorem others_le (L : List (Kb × Value)) (s : Int) (i : Nat) : (others (L.take i) s).length ≤ i := by
  unfold others
  have := List.length_filter_le (fun p : Kb × Value => decide (p.1.seq ≠ s)) (L.take i)
  rw [List.length_take] at this
  omega
theorem slip_fst (F : List (Kb × Value)) (b : Kb) (u : Value) {k : Nat} (hk : k = F.length - tw (F.map Prod.fst) b.seq F.length) : (F.take k ++ (b, u) :: F.drop k).map Prod.fst = slip (F.map Prod.fst) b := by
  rw [slip_tw, List.length_map, ← hk, List.map_append, List.map_cons, List.map_take, List.map_drop]
end Rl
/-- What was made since w stays, and what was there: then so does this. -/
def Lasts (w w' : World) (pre post : World → Prop) : Prop := ∀ W' : World, w'.heap.size ≤ W'.heap.size → (∀ b, w.heap.size ≤ b → b < w'.heap.size → W'.heap[b]? = w'.heap[b]?) → pre W' → post W'
def RlAt (A B : Option Addr) (L : List It) (L0 : List (Kb × Value)) (W : World) : Prop := IRow W A L ∧ KVRow W B L0
theorem RlAt.below {w w' : World} {A B : Option Addr} {L : List It} {L0 : List (Kb × Value)} (h : RlAt A B L L0 w) (hb : Below w.heap.size w w') : RlAt A B L L0 w' := ⟨h.1.below hb, h.2.below hb⟩
theorem Lasts.now {w w' : World} {pre post : World → Prop} (h : Lasts w w' pre post) (hp : pre w') : post w' := h w' (Nat.le_refl _) (fun _ _ _ => rfl) hp
theorem Lasts.same (w w' : World) (pre : World → Prop) : Lasts w w' pre pre := fun _ _ _ h => h
def TakenTo (w : World) (A B : Option Addr) (L : List It) (L0 : List (Kb × Value)) (n : Int) (y : Rl) (e : Ending) (w' : World) : Prop := ∃ A' c' B' cB' L1, e = .returned (.agg #[.int .i64 n, .int .i64 y.view, .int .i64 y.low, .slice A' y.L.length c', .slice B' y.kept.length cB']) ∧ L1.map Prod.fst = y.kept ∧ Below w.heap.size w w' ∧ Lasts w w' (RlAt A B L L0) (RlAt A' B' y.L L1)
theorem takenTo {w w' : World} {A0 B0 : Option Addr} {L : List It} {L0 L1 : List (Kb × Value)} {y y' : Rl} {A B : Option Addr} {m c k cB : Nat} {n v lo : Int} (hy : y = y') (hm : y'.L.length = m) (hk : y'.kept.length = k) (hv : y'.view = v) (hl : y'.low = lo) (h1 : L1.map Prod.fst = y'.kept) (h3 : Below w.heap.size w w') (h2 : Lasts w w' (RlAt A0 B0 L L0) (RlAt A B y'.L L1)) : TakenTo w A0 B0 L L0 n y (.returned (.agg #[.int .i64 n, .int .i64 v, .int .i64 lo, .slice A m c, .slice B k cB])) w' := by
  subst hy hm hk hv hl
  exact ⟨A, c, B, cB, L1, rfl, h1, h3, h2⟩
theorem Mine.addr {w0 w : World} {sz : Nat} {A : Option Addr} {c m : Nat} {xs : List Value} (h : Mine w0 w sz (.slice A m c) m xs) (hm : 0 < m) : ∃ b o, A = some ⟨b, o, none⟩ := by
  obtain ⟨b, ⟨_, A', c', heq, h1, _, h3⟩, _⟩ := h
  cases heq
  rcases h3 with ⟨_, h4⟩ | ⟨g, off, _, rfl, _, _, _⟩
  · omega
  · exact ⟨g, off, rfl⟩
def put5 (w : World) (g : Nat) (v0 v1 v2 v3 v4 : Value) : World := ((((w.setCell ⟨g, 0, none⟩ v0).setCell ⟨g, 1, none⟩ v1).setCell ⟨g, 2, none⟩ v2).setCell ⟨g, 3, none⟩ v3).setCell ⟨g, 4, none⟩ v4
theorem below_five {B g : Nat} {w W : World} (h : Below B w W) (hB : B ≤ g) (v0 v1 v2 v3 v4 : Value) : Below B w (put5 W g v0 v1 v2 v3 v4) := ((((h.setCell hB _).setCell hB _).setCell hB _).setCell hB _).setCell hB _
theorem heap_five {g b : Nat} (W : World) (hne : b ≠ g) (v0 v1 v2 v3 v4 : Value) : (put5 W g v0 v1 v2 v3 v4).heap[b]? = W.heap[b]? := by
  unfold put5
  rw [heap_setCell_other _ ⟨g, 4, none⟩ b _ hne, heap_setCell_other _ ⟨g, 3, none⟩ b _ hne, heap_setCell_other _ ⟨g, 2, none⟩ b _ hne, heap_setCell_other _ ⟨g, 1, none⟩ b _ hne, heap_setCell_other _ ⟨g, 0, none⟩ b _ hne]
theorem Mine.five {w0 W : World} {sz : Nat} {v : Value} {n : Nat} {xs : List Value} (h : Mine w0 W sz v n xs) {g : Nat} (hg : g < w0.heap.size) (v0 v1 v2 v3 v4 : Value) : Mine w0 (put5 W g v0 v1 v2 v3 v4) sz v n xs :=
  h.carry (by simp [put5]) fun b hb _ => heap_five W (by omega) _ _ _ _ _
theorem Mine.cell1 {w0 W : World} {sz : Nat} {v : Value} {n : Nat} {xs : List Value} (h : Mine w0 W sz v n xs) {g j : Nat} (hg : g < w0.heap.size) (u : Value) : Mine w0 (W.setCell ⟨g, j, none⟩ u) sz v n xs :=
  h.carry (by simp) fun b hb _ => heap_setCell_other W ⟨g, j, none⟩ b u (by show b ≠ g; omega)
end Go.Proofs.Ytedndjbhgbdpoaa
