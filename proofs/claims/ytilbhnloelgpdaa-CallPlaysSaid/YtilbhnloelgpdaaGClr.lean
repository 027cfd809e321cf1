/- Clearing a book, in plain. Clear. A book as the laws use it: one predicate, one lemma for each call. awake: chapter 8's example. -/
import Derived.Test.YtilbhnloelgpdaaGBk
import Derived.Deep.RegionWith
namespace Go.Proofs.Ytilbhnloelgpdaa
open Go.RowKit
set_option linter.unusedVariables false
set_option linter.unusedSimpArgs false
namespace Ca
theorem fillGo_mem : ∀ (l : List Ord) (n : Int) {f : Fil}, f ∈ fillGo n l → ∃ o ∈ l, f.id = o.id ∧ f.owner = o.owner ∧ 1 ≤ f.amount ∧ f.amount ≤ o.amount
  | [], n, f, h => by simp [fillGo] at h
  | q :: l, n, f, h => by
    unfold fillGo at h
    split at h
    · rename_i hp
      rcases List.mem_cons.1 h with rfl | h
      · exact ⟨q, List.mem_cons_self .., rfl, rfl, by show 1 ≤ min n q.amount; omega, Int.min_le_right ..⟩
      · obtain ⟨o, h1, h2⟩ := fillGo_mem l _ h
        exact ⟨o, List.mem_cons_of_mem _ h1, h2⟩
    · obtain ⟨o, h1, h2⟩ := fillGo_mem l _ h
      exact ⟨o, List.mem_cons_of_mem _ h1, h2⟩
theorem fillGo_sub : ∀ (l : List Ord) (n : Int), List.Sublist ((fillGo n l).map (·.id)) (l.map (·.id))
  | [], n => List.Sublist.slnil
  | q :: l, n => by
    unfold fillGo
    split
    · exact (fillGo_sub l _).cons_cons _
    · exact (fillGo_sub l _).cons _
theorem ins_perm (sd : Bool) (o : Ord) (l : List Ord) : (ins sd o l).Perm (o :: l) := by
  unfold ins
  refine List.perm_middle.trans ?_
  rw [List.takeWhile_append_dropWhile]
theorem fold_perm (sd : Bool) : ∀ (l a : List Ord), (l.foldl (fun acc o => ins sd o acc) a).Perm (l ++ a)
  | [], a => List.Perm.refl _
  | o :: l, a => by
    refine (fold_perm sd l (ins sd o a)).trans ?_
    exact ((ins_perm sd o a).append_left l).trans List.perm_middle
theorem isort_perm (sd : Bool) (l : List Ord) : (isort sd l).Perm l := by
  have := fold_perm sd l []
  rw [List.append_nil] at this
  exact this
theorem fills_mem {L : List Ord} {p n : Int} {f : Fil} (h : f ∈ fills L p n) : ∃ o ∈ rights L, f.id = o.id ∧ f.owner = o.owner ∧ 1 ≤ f.amount ∧ f.amount ≤ o.amount := by
  unfold fills at h
  rcases List.mem_append.1 h with h | h
  all_goals
    obtain ⟨o, h1, h2⟩ := fillGo_mem _ _ h
    exact ⟨o, (List.mem_filter.1 ((isort_perm _ _).mem_iff.1 h1)).1, h2⟩
theorem fills_few (L : List Ord) (p n : Int) : (fills L p n).length ≤ 128 := by
  unfold fills
  rw [List.length_append]
  have h1 := fillGo_length (isort true (sideOf true p (rights L))) n
  have h2 := fillGo_length (isort false (sideOf false p (rights L))) n
  have h3 := (isort_perm true (sideOf true p (rights L))).length_eq
  have h4 := (isort_perm false (sideOf false p (rights L))).length_eq
  have h5 : (sideOf true p (rights L)).length ≤ (rights L).length := List.length_filter_le _ _
  have h6 : (sideOf false p (rights L)).length ≤ (rights L).length := List.length_filter_le _ _
  have h7 := rights_few L
  omega
theorem id_inj {R : List Ord} (h : R.Pairwise fun x y => x.id ≠ y.id) {x y : Ord} (hx : x ∈ R) (hy : y ∈ R) (e : x.id = y.id) : x = y := by
  obtain ⟨i, hi, ei⟩ := List.getElem_of_mem hx
  obtain ⟨j, hj, ej⟩ := List.getElem_of_mem hy
  rcases Nat.lt_trichotomy i j with hij | hij | hij
  · exact absurd (by rw [ei, ej]; exact e) (List.pairwise_iff_getElem.1 h i j hi hj hij)
  · subst hij; rw [← ei, ← ej]
  · exact absurd (by rw [ei, ej]; exact e.symm) (List.pairwise_iff_getElem.1 h j i hj hi hij)
theorem pw_ids {M : List Ord} : (M.map (·.id)).Pairwise (· ≠ ·) ↔ M.Pairwise fun x y => x.id ≠ y.id := List.pairwise_map
theorem fills_ids {L : List Ord} (h : L.Pairwise fun x y => x.id ≠ y.id) (p n : Int) : ((fills L p n).map (·.id)).Pairwise (· ≠ ·) := by
  have hR : (rights L).Pairwise fun x y => x.id ≠ y.id := by
    unfold rights
    split
    · exact List.Pairwise.nil
    · exact h.sublist List.filter_sublist
  have hs : ∀ sd, (sideOf sd p (rights L)).Pairwise fun x y => x.id ≠ y.id := fun sd => hR.sublist List.filter_sublist
  have hi : ∀ sd, ((isort sd (sideOf sd p (rights L))).map (·.id)).Pairwise (· ≠ ·) := fun sd => by
    have hp := (isort_perm sd (sideOf sd p (rights L))).map (·.id)
    exact (hp.pairwise_iff (fun h => Ne.symm h)).2 (pw_ids.2 (hs sd))
  unfold fills
  rw [List.map_append, List.pairwise_append]
  refine ⟨(hi true).sublist (fillGo_sub _ _), (hi false).sublist (fillGo_sub _ _), fun a ha b hb e => ?_⟩
  obtain ⟨x, hx, rfl⟩ := List.mem_map.1 ((fillGo_sub _ _).subset ha)
  obtain ⟨y, hy, e2⟩ := List.mem_map.1 ((fillGo_sub _ _).subset hb)
  have hx2 := (isort_perm _ _).mem_iff.1 hx
  have hy2 := (isort_perm _ _).mem_iff.1 hy
  have he := id_inj hR (List.mem_filter.1 hx2).1 (List.mem_filter.1 hy2).1 (e.trans e2.symm)
  have b1 := sideOf_buys x hx2
  have b2 := sideOf_buys y hy2
  rw [he, b2] at b1
  cases b1
end Ca
namespace Bk
theorem less_map (L : List Ord) (f : Fil) : (less L f).map (fun x => (x.id, x.place)) = L.map fun x => (x.id, x.place) := set_same_map rfl rfl
theorem less_length (L : List Ord) (f : Fil) : (less L f).length = L.length := by unfold less; rw [List.length_set]
theorem ids_of {L M : List Ord} (h : L.map (fun x => (x.id, x.place)) = M.map fun x => (x.id, x.place)) : L.map (·.id) = M.map (·.id) := by
  have := congrArg (List.map Prod.fst) h
  rw [List.map_map, List.map_map] at this
  exact this
theorem ix_map {L M : List Ord} (h : L.map (·.id) = M.map (·.id)) (id : Int) : ix L id = ix M id := by
  have e : ∀ K : List Ord, ix K id = (K.map (·.id)).findIdx (fun x => x == id) := fun K => by
    unfold ix
    rw [List.findIdx_map]; rfl
  rw [e, e, h]
/-- The list behind the first j fills. -/
def ln (L : List Ord) (F : List Fil) (j : Nat) : List Ord := (F.take j).foldl less L
theorem ln_zero (L : List Ord) (F : List Fil) : ln L F 0 = L := by unfold ln; rw [List.take_zero]; rfl
theorem ln_next (L : List Ord) (F : List Fil) {j : Nat} (h : j < F.length) : ln L F (j + 1) = less (ln L F j) (F.getD j fil0) := by
  unfold ln
  rw [List.take_succ_eq_append_getElem h, List.foldl_append, List.getD_eq_getElem?_getD, List.getElem?_eq_getElem h]; rfl
theorem fold_map : ∀ (F : List Fil) (L : List Ord), (F.foldl less L).map (fun x => (x.id, x.place)) = L.map fun x => (x.id, x.place)
  | [], L => rfl
  | f :: F, L => by rw [List.foldl_cons, fold_map F, less_map]
theorem fold_length (F : List Fil) (L : List Ord) : (F.foldl less L).length = L.length := by
  have := congrArg List.length (fold_map F L)
  rwa [List.length_map, List.length_map] at this
theorem fold_bound {L : List Ord} {F : List Fil} (hF : ∀ f ∈ F, 1 ≤ f.amount ∧ f.amount ≤ 1048576) {B : Int} (hL : ∀ o ∈ L, -B ≤ o.amount ∧ o.amount ≤ 1048576) : ∀ o ∈ F.foldl less L, -(B + 1048576 * F.length) ≤ o.amount ∧ o.amount ≤ 1048576 := by
  induction F generalizing L B with
  | nil => intro o ho; have := hL o ho; simp only [List.length_nil]; omega
  | cons f F ih =>
    intro o ho
    rw [List.foldl_cons] at ho
    have hf := hF f (List.mem_cons_self ..)
    have := ih (L := less L f) (B := B + 1048576) (fun g hg => hF g (List.mem_cons_of_mem _ hg)) (fun q hq => by
      unfold less at hq
      rcases mem_set_cases hq with hq' | rfl
      · have := hL q hq'; omega
      · by_cases hi : ix L f.id < L.length
        · have := hL _ (getD_mem hi)
          show -(B + 1048576) ≤ (L.getD _ ord0).amount - f.amount ∧ (L.getD _ ord0).amount - f.amount ≤ _
          omega
        · rw [List.set_eq_of_length_le (by omega)] at hq
          have := hL _ hq; omega) o ho
    simp only [List.length_cons]
    omega
/-- How much of a number is traded. -/
def got (F : List Fil) (id : Int) : Int := ((F.filter fun f => f.id == id).map (·.amount)).sum
theorem got_cons (f : Fil) (F : List Fil) (id : Int) : got (f :: F) id = (if f.id = id then f.amount else 0) + got F id := by
  unfold got
  by_cases h : f.id = id <;> simp [h]
theorem less_at {L : List Ord} (h : L.Pairwise fun x y => x.id ≠ y.id) (f : Fil) {i : Nat} (hi : i < L.length) : (less L f).getD i ord0 = { L.getD i ord0 with amount := (L.getD i ord0).amount - (if f.id = (L.getD i ord0).id then f.amount else 0) } := by
  unfold less
  by_cases e : f.id = (L.getD i ord0).id
  · rw [if_pos e, e, ix_at h hi, getD_set_self hi]
  · rw [if_neg e]
    by_cases h2 : ix L f.id = i
    · exact absurd (by rw [← h2]; exact (ix_id (by rw [h2]; exact hi)).symm) e
    · rw [getD_set_ne h2, Int.sub_zero]
theorem fold_at : ∀ (F : List Fil) (L : List Ord), L.Pairwise (fun x y => x.id ≠ y.id) → ∀ {i : Nat}, i < L.length → (F.foldl less L).getD i ord0 = { L.getD i ord0 with amount := (L.getD i ord0).amount - got F (L.getD i ord0).id }
  | [], L, h, i, hi => by simp [got]
  | f :: F, L, h, i, hi => by
    have h2 : (less L f).Pairwise fun x y => x.id ≠ y.id := (pw_map (less_map L f)).1.2 h
    rw [List.foldl_cons, fold_at F (less L f) h2 (by rw [less_length]; exact hi), less_at h f hi, got_cons]
    generalize L.getD i ord0 = q
    obtain ⟨qi, qo, qp, qa, qpl, qb⟩ := q
    simp only [Ord.mk.injEq, true_and, and_true]
    omega
theorem got_one : ∀ {F : List Fil} (h : (F.map (·.id)).Pairwise (· ≠ ·)) {f : Fil}, f ∈ F → got F f.id = f.amount
  | [], h, f, hf => by cases hf
  | g :: F, h, f, hf => by
    rw [List.map_cons, List.pairwise_cons] at h
    rw [got_cons]
    rcases List.mem_cons.1 hf with rfl | hf
    · rw [if_pos rfl]
      have : got F f.id = 0 := by
        unfold got
        rw [List.filter_eq_nil_iff.2 fun g hg => ?_]; rfl
        simpa using fun e => h.1 g.id (List.mem_map_of_mem hg) e.symm
      omega
    · rw [if_neg fun e => h.1 f.id (List.mem_map_of_mem hf) e, got_one h.2 hf]; omega
theorem got_none {F : List Fil} {id : Int} (h : ∀ f ∈ F, f.id ≠ id) : got F id = 0 := by
  unfold got
  rw [List.filter_eq_nil_iff.2 fun g hg => by simpa using h g hg]; rfl
theorem rights_all {b : Bk} (h : b.Ok) : Ca.rights b.l = b.l := by
  unfold Ca.rights
  rw [if_neg (by have := h.few; omega), List.filter_eq_self.2 h.right]
/-- Of each order nothing or something is traded, not more than it has. -/
theorem got_range {b : Bk} (h : b.Ok) (p n : Int) {o : Ord} (ho : o ∈ b.l) : 0 ≤ got (Ca.fills b.l p n) o.id ∧ got (Ca.fills b.l p n) o.id ≤ o.amount := by
  have h1 := (Ord.right_iff o).1 (h.right o ho)
  by_cases he : ∃ f ∈ Ca.fills b.l p n, f.id = o.id
  · obtain ⟨f, hf, e⟩ := he
    obtain ⟨q, hq, e1, _, h2, h3⟩ := Ca.fills_mem hf
    rw [rights_all h] at hq
    have : q = o := Ca.id_inj h.ids hq ho (e1.symm.trans e)
    rw [← e, got_one (Ca.fills_ids h.ids p n) hf, ← this]
    omega
  · rw [got_none fun f hf e => he ⟨f, hf, e⟩]
    omega
theorem after_mem {b : Bk} (h : b.Ok) (p n : Int) {x : Ord} (hx : x ∈ after b.l (Ca.fills b.l p n)) : ∃ o ∈ b.l, x = { o with amount := o.amount - got (Ca.fills b.l p n) o.id } ∧ 1 ≤ x.amount ∧ x.amount ≤ o.amount := by
  obtain ⟨h1, h2⟩ := List.mem_filter.1 hx
  obtain ⟨i, hi, e⟩ := List.getElem_of_mem h1
  rw [fold_length] at hi
  have h3 := fold_at (Ca.fills b.l p n) b.l h.ids hi
  rw [List.getD_eq_getElem?_getD (l := List.foldl _ _ _), List.getElem?_eq_getElem (by rw [fold_length]; exact hi)] at h3
  have h4 : x = { b.l.getD i ord0 with amount := (b.l.getD i ord0).amount - got (Ca.fills b.l p n) (b.l.getD i ord0).id } := by rw [← e]; exact h3
  have h5 := got_range h p n (getD_mem hi)
  refine ⟨_, getD_mem hi, h4, ?_⟩
  have h6 : x.amount ≠ 0 := by simpa using h2
  have h7 : x.amount = (b.l.getD i ord0).amount - got (Ca.fills b.l p n) (b.l.getD i ord0).id := by rw [h4]
  omega
theorem clear_ok {b : Bk} (h : b.Ok) : b.clear.1.Ok := by
  unfold clear
  have hm := fold_map (Ca.fills b.l (Ca.cross b.l).1 (Ca.cross b.l).2) b.l
  have hs : List.Sublist (after b.l (Ca.fills b.l (Ca.cross b.l).1 (Ca.cross b.l).2)) ((Ca.fills b.l (Ca.cross b.l).1 (Ca.cross b.l).2).foldl less b.l) := List.filter_sublist
  refine ⟨?_, fun x hx => ?_, ((pw_map hm).1.2 h.ids).sublist hs, ((pw_map hm).2.2 h.places).sublist hs, fun x hx => ?_, h.next0, h.next1⟩
  · have := hs.length_le
    rw [fold_length] at this
    exact Nat.le_trans this h.few
  · obtain ⟨o, ho, e, h1, h2⟩ := after_mem h _ _ hx
    have h3 := (Ord.right_iff o).1 (h.right o ho)
    rw [e] at h1 h2 ⊢
    exact (Ord.right_iff _).2 ⟨h3.1, h3.2.1, h3.2.2.1, h3.2.2.2.1, h3.2.2.2.2.1, h3.2.2.2.2.2.1, h1, Int.le_trans h2 h3.2.2.2.2.2.2.2⟩
  · obtain ⟨o, ho, e, _⟩ := after_mem h _ _ hx
    rw [e]
    exact h.span o ho
end Bk
end Go.Proofs.Ytilbhnloelgpdaa
namespace Go.Proofs.Ytilbhnloelgpdaa
open Go.RowKit
set_option linter.unusedVariables false
set_option linter.unusedSimpArgs false
theorem Ca.cross_range (l : List Ord) : 0 ≤ (Ca.cross l).2 ∧ (Ca.cross l).2 ≤ 67108864 := by
  have hB := Ca.cross_best (Ca.rights l)
  have h0 : 0 ≤ (Ca.cross l).2 := hB.pos
  refine ⟨h0, ?_⟩
  by_cases hp : 0 < (Ca.cross l).2
  · obtain ⟨o, _, _, h3⟩ := hB.own hp
    have h4 := Ca.bought_bound (l := Ca.rights l) Ca.rights_amount o.price
    have h5 := Ca.rights_few l
    have h6 : Ca.traded (Ca.rights l) o.price = (Ca.cross l).2 := h3
    unfold Ca.traded at h6
    omega
  · omega
theorem over_amount (F : List Ord) {i : Nat} (h : i < F.length) (v : Int) : over (ocells F) (i * 6 + 3) [.int .i64 v] = ocells (F.set i { F.getD i ord0 with amount := v }) := by
  have hg : F.getD i ord0 = F[i] := by rw [List.getD_eq_getElem?_getD, List.getElem?_eq_getElem h]; rfl
  have e : F = F.take i ++ F[i] :: F.drop (i + 1) := by rw [← List.drop_eq_getElem_cons h, List.take_append_drop]
  have e1 : (ocells (F.take i)).length = i * 6 := by rw [ocells_length, List.length_take, Nat.min_eq_left (by omega)]
  have e2 : ocells F = ocells (F.take i) ++ (ocell F[i] ++ ocells (F.drop (i + 1))) := by
    conv => lhs; rw [e]
    rw [ocells_append]; rfl
  have e3 : F.set i { F.getD i ord0 with amount := v } = F.take i ++ { F.getD i ord0 with amount := v } :: F.drop (i + 1) := by rw [List.set_eq_take_append_cons_drop, if_pos h]
  unfold over
  rw [e3, ocells_append, e2, List.take_append, List.drop_append, e1, List.take_of_length_le (l := ocells (List.take i F)) (by omega), List.drop_of_length_le (l := ocells (List.take i F)) (by simp only [List.length_cons, List.length_nil]; omega), show i * 6 + 3 - i * 6 = 3 from by omega, show i * 6 + 3 + [Value.int .i64 v].length - i * 6 = 4 from by simp; omega, hg, List.nil_append, List.append_assoc, List.append_assoc]
  rfl
theorem Mine.far {w0 w : World} {sz n : Nat} {v : Value} {xs : List Value} (h : Mine w0 w sz v n xs) {g : Nat} (hg : g < w0.heap.size) (j : Nat) (u : Value) : Mine w0 (w.setCell ⟨g, j, none⟩ u) sz v n xs :=
  h.carry (by simp) fun k hk _ => heap_setCell_other w ⟨g, j, none⟩ k u (by rintro rfl; exact absurd hg (Nat.not_lt.2 hk))
theorem Mine.only {w0 w w' : World} {sz n : Nat} {v : Value} {xs : List Value} (h : Mine w0 w sz v n xs) {S : Nat → Prop} (ho : Only S w w') (hS : ∀ k, S k → k < w0.heap.size) : Mine w0 w' sz v n xs :=
  h.carry ho.size fun k hk hl => ho.block k hl fun hs => absurd (hS k hs) (Nat.not_lt.2 hk)
theorem Own.amount {w : World} {n c b o : Nat} {gl : Option Nat} {F : List Ord} (h : Own w 6 (.slice (some ⟨b, o, none⟩) n c) gl n (ocells F)) (hF : F.length = n) {i : Nat} (hi : i < n) (v : Int) :
    gl = some b ∧ (∃ x, w.cell? ⟨b, o + i * 6 + 3, none⟩ = some x) ∧ w.frozen? ⟨b, o + i * 6 + 3, none⟩ = false ∧ Own (w.setCell ⟨b, o + i * 6 + 3, none⟩ (.int .i64 v)) 6 (.slice (some ⟨b, o, none⟩) n c) gl n (ocells (F.set i { F.getD i ord0 with amount := v })) := by
  obtain ⟨g, off, e1, e2, h1, h2⟩ := h.over (p := i * 6 + 3) (vs := [.int .i64 v]) (by simp; omega) (by simp)
  cases e2
  have h3 := h1 0 (by simp)
  rw [over_amount F (by omega)] at h2
  refine ⟨e1, ?_, ?_, ?_⟩
  · obtain ⟨x, hx⟩ := Option.isSome_iff_exists.1 h3.1
    exact ⟨x, by rw [Nat.add_assoc]; exact hx⟩
  · rw [Nat.add_assoc]; exact h3.2
  · rw [Nat.add_assoc]; exact h2
def Cleared (w : World) (g : Nat) (gl : Option Nat) (b : Bk) (e : Ending) (w' : World) : Prop :=
  ∃ A c, e = .returned (.tuple #[.int .i64 b.clear.2.1.1, .int .i64 b.clear.2.1.2, .slice A b.clear.2.2.length c]) ∧ Mine w w' 3 (.slice A b.clear.2.2.length c) b.clear.2.2.length (fcells b.clear.2.2) ∧ AtB w' g gl b.clear.1 ∧ Only (fun k => k = g ∨ some k = gl) w w'
set_option maxHeartbeats 16000000 in
set_option maxRecDepth 100000 in
theorem clear_calls (w : World) (g : Nat) (gl : Option Nat) (b : Bk) (h : AtB w g gl b) : Calls Try.prog 24 #[.pointer (some ⟨g, 0, none⟩)] w (Cleared w g gl b) := by
  have hok := Lib.hid (Bk.clear_ok h.ok)
  obtain ⟨A, c, hB, hO⟩ := h.box
  have HB := Lib.hid hB
  have HO := Lib.hid hO
  have hglt : Hid (gl ≠ some g ∧ g < w.heap.size ∧ ∀ k, gl = some k → k < w.heap.size) := Lib.hid ⟨h.apart, h.lt, fun k hk => hO.lt hk⟩
  have hcr := Ca.cross_range b.l
  have HCr := Lib.hid (cross_calls w A b.l c (hO.orow rfl).2.2)
  have HFi := Lib.hid (fun wx (hb : Below w.heap.size w wx) => fills_calls wx A b.l c (Ca.cross b.l).1 (Ca.cross b.l).2 ((hO.orow rfl).2.2.below hb) (by omega))
  have hfew := h.ok.few
  have hff := Ca.fills_few b.l (Ca.cross b.l).1 (Ca.cross b.l).2
  have hfm : Hid (∀ f ∈ Ca.fills b.l (Ca.cross b.l).1 (Ca.cross b.l).2, (1 ≤ f.amount ∧ f.amount ≤ 1048576) ∧ Bk.ix b.l f.id < b.l.length) := Lib.hid fun f hf => by
    obtain ⟨o, ho, e1, _, h2, h3⟩ := Ca.fills_mem hf
    have h4 := Ca.rights_amount o ho
    rw [Bk.rights_all h.ok] at ho
    exact ⟨by omega, Bk.ix_mem.2 ⟨o, ho, e1.symm⟩⟩
  have hbd : Hid (∀ o ∈ b.l, -0 ≤ o.amount ∧ o.amount ≤ 1048576) := Lib.hid fun o ho => by
    have := (Ord.right_iff o).1 (h.ok.right o ho)
    omega
  unfold Cleared Bk.clear at *
  simp only at *
  generalize Ca.fills b.l (Ca.cross b.l).1 (Ca.cross b.l).2 = F at *
  obtain ⟨p, hp⟩ : ∃ p, Hid ((Ca.cross b.l).1 = p) := ⟨_, Lib.hid rfl⟩
  obtain ⟨amt, hamt⟩ : ∃ amt, Hid ((Ca.cross b.l).2 = amt) := ⟨_, Lib.hid rfl⟩
  rw [hp.out, hamt.out] at HCr HFi ⊢
  obtain ⟨n, hn⟩ : ∃ n, Hid (b.l.length = n) := ⟨_, Lib.hid rfl⟩
  obtain ⟨k, hk⟩ : ∃ k, Hid (F.length = k) := ⟨_, Lib.hid rfl⟩
  obtain ⟨nx, hnx⟩ : ∃ nx, Hid (b.next = nx) := ⟨_, Lib.hid rfl⟩
  rw [hn.out] at HB HO HCr HFi hfew hfm
  rw [hnx.out] at HB hok ⊢
  rw [hk.out] at hff ⊢
  clear h hB hO hcr
  go_enter Try.func24, Try.ntmps24
  have x0 := HB.out.cell 0
  simp at x0
  go_upto_region 3 with (go_at_call 14; (with_reducible refine HCr.out.mono ?_); rintro e w1 ⟨rfl, hh⟩; have hb1 := Lib.hid hh; clear hh)
  clear x0
  have x0 := (HB.out.below hb1.out HB.out.lt).cell 0
  simp at x0
  have HFi1 := Lib.hid (HFi.out _ hb1.out)
  go_upto_region 5 with (go_at_call 16; (with_reducible refine HFi1.out.mono ?_); rintro e w2 ⟨Af, cf, rfl, hmf, hh⟩; rw [hk.out] at hmf ⊢; have hb2 := Lib.hid (below_next hb1.out hh); have HMf := Lib.hid (hmf.base hb1.out.size); clear hh hmf)
  have HBG := Lib.hid (HB.out.below hb2.out HB.out.lt)
  have HOw : Hid (Own w2 6 (.slice A n c) gl n (ocells (Bk.ln b.l F 0))) := Lib.hid (by rw [Bk.ln_zero]; exact HO.out.below hb2.out)
  have HOn : Hid (Only (fun x => x = g ∨ some x = gl) w w2) := Lib.hid (Only.of_below hb2.out)
  clear x0 HB HO HCr HFi HFi1 hb1 hb2
  go_loopg [26] (k + 1) (fun gk s26 wr => ∃ j : Nat, gk = k + 1 - j ∧ j ≤ k ∧ s26 = .int .i64 (j : Int) ∧ Hid (Own wr 6 (.slice A n c) gl n (ocells (Bk.ln b.l F j))) ∧ Hid (Blk wr g 76 #[.slice A n c, .int .i64 nx]) ∧ Hid (Only (fun x => x = g ∨ some x = gl) w wr) ∧ Hid (Mine w wr 3 (.slice Af k cf) k (fcells F)))
  case atStart => exact ⟨0, rfl, Nat.zero_le _, rfl, HOw, HBG, HOn, HMf⟩
  case round =>
    clear HOw HBG HOn HMf
    obtain ⟨j, rfl, hj, rfl, HOw, HBG, HOn, HMf⟩ := hrel
    have hlen : Hid ((Bk.ln b.l F j).length = n) := Lib.hid (by unfold Bk.ln; rw [Bk.fold_length, hn.out])
    by_cases hjk : j < k
    · have j0 : (0 : Int) ≤ (j : Int) := by omega
      have hjI : (j : Int) < (k : Int) := by omega
      have hjL : Hid (j < F.length) := Lib.hid (by rw [hk.out]; exact hjk)
      have hFR := Lib.hid (HMf.out.frow hk.out).2
      obtain ⟨fb, fo, rfl⟩ : ∃ b o, Af = some ⟨b, o, none⟩ := by
        obtain ⟨b, o, e, _⟩ := hFR.out.cells hjL.out
        exact ⟨b, o, e⟩
      obtain ⟨y0, y1, y2⟩ := FRow.three hFR.out hjL.out (Below.refl _ _)
      have hfin := hfm.out (F.getD j fil0) (by rw [List.getD_eq_getElem?_getD, List.getElem?_eq_getElem hjL.out]; exact List.getElem_mem hjL.out)
      have hixe : Bk.ix (Bk.ln b.l F j) (F.getD j fil0).id = Bk.ix b.l (F.getD j fil0).id := Bk.ix_map (Bk.ids_of (by unfold Bk.ln; exact Bk.fold_map _ _)) _
      rw [← hixe] at hfin
      have hnx2 := Lib.hid (Bk.ln_next b.l F hjL.out)
      have hbnd := Bk.fold_bound (L := b.l) (F := F.take j) (fun f hf => (hfm.out f (List.mem_of_mem_take hf)).1) (B := 0) hbd.out
      have HM := Lib.hid (show k + 1 - (j + 1) < k + 1 - j by omega)
      clear hixe
      unfold Bk.less at hnx2
      generalize F.getD j fil0 = f at y0 y1 y2 hfin hnx2
      obtain ⟨fi, fw, fa⟩ := f
      simp only at y0 y1 y2 hfin hnx2
      have hln : Hid (Bk.ln b.l F j = (F.take j).foldl Bk.less b.l) := Lib.hid rfl
      rw [← hln.out] at hbnd
      have htk : (F.take j).length ≤ 128 := by rw [List.length_take]; omega
      obtain ⟨LJ, hLJ⟩ : ∃ LJ, Hid (Bk.ln b.l F j = LJ) := ⟨_, Lib.hid rfl⟩
      rw [hLJ.out] at HOw hlen hfin hnx2 hbnd
      obtain ⟨i, hie⟩ : ∃ i, Hid (Bk.ix LJ fi = i) := ⟨_, Lib.hid rfl⟩
      rw [hie.out] at hfin hnx2
      obtain ⟨⟨fa1, fa2⟩, hin⟩ := hfin
      have hiL : Hid (i < LJ.length) := Lib.hid (by rw [hlen.out]; exact hin)
      have hab := hbnd _ (getD_mem hiL.out)
      have hAt : Hid (Bk.at_ LJ fi = (i : Int)) := Lib.hid (by rw [at_in (by rw [hie.out]; exact hiL.out), hie.out])
      obtain ⟨bb, oo, rfl⟩ : ∃ b o, A = some ⟨b, o, none⟩ := by
        obtain ⟨b, o, e, _⟩ := (HOw.out.orow hlen.out).2.2.cells hiL.out
        exact ⟨b, o, e⟩
      have HAt : Hid (∀ wx, Below wr.heap.size wr wx → Calls Try.prog 43 #[.pointer (some ⟨g, 0, none⟩), .int .i64 fi] wx (Told wx (.int .i64 (i : Int)))) := Lib.hid fun wx hb => by
        have := at_raw wx g (some ⟨bb, oo, none⟩) LJ c nx (by rw [hlen.out]; exact HBG.out.below hb HBG.out.lt) ((HOw.out.orow hlen.out).2.2.below hb) (by rw [hlen.out]; exact hfew) fi
        rwa [hAt.out] at this
      have HC6 := Lib.hid (fun wx (hb : Below wr.heap.size wr wx) => (ORow.six (HOw.out.orow hlen.out).2.2 hiL.out hb).2.2.2.1)
      have HA : Hid (∀ wx, Below wr.heap.size wr wx → ∀ v : Int, gl = some bb ∧ (∃ x, wx.cell? ⟨bb, oo + i * 6 + 3, none⟩ = some x) ∧ wx.frozen? ⟨bb, oo + i * 6 + 3, none⟩ = false ∧ Own (wx.setCell ⟨bb, oo + i * 6 + 3, none⟩ (.int .i64 v)) 6 (.slice (some ⟨bb, oo, none⟩) n c) gl n (ocells (LJ.set i ⟨(LJ.getD i ord0).id, (LJ.getD i ord0).owner, (LJ.getD i ord0).price, v, (LJ.getD i ord0).place, (LJ.getD i ord0).buys⟩))) := Lib.hid fun wx hb v => (HOw.out.below hb).amount hlen.out hin v
      generalize LJ.getD i ord0 = q at hnx2 hab HC6 HA
      obtain ⟨qi, qo, qp, qa, qpl, qb⟩ := q
      simp only at hnx2 hab HC6 HA
      have qs : IntKind.i64.wrap (qa - fa) = qa - fa := by rw [IntKind.wrap_i64]; omega
      have i0 : (0 : Int) ≤ (i : Int) := by omega
      have i1 : (i : Int) < (n : Int) := by omega
      clear hab hbnd htk fa1 fa2
      go_upto_region 7 with (fail)
      have hbx : Hid (Below wr.heap.size wr (wr.alloc (.cells #[.int .i64 fi, .int .i64 fw, .int .i64 fa] 44))) := Lib.hid ((Below.refl _ _).alloc (Nat.le_refl _) _)
      have BX := Lib.hid (Blk.new wr 44 #[.int .i64 fi, .int .i64 fw, .int .i64 fa])
      obtain ⟨kk, hkk⟩ : ∃ kk, Hid (wr.heap.size = kk) := ⟨_, Lib.hid rfl⟩
      rw [hkk.out] at BX ⊢
      clear y0 y1 y2
      generalize World.alloc wr _ = wx at hbx BX ⊢
      have HX : Hid (∀ wz, Below wx.heap.size wx wz → wz.cell? ⟨g, 0, none⟩ = some (.slice (some ⟨bb, oo, none⟩) n c) ∧ wz.cell? ⟨kk, 0, none⟩ = some (.int .i64 fi) ∧ wz.cell? ⟨kk, 2, none⟩ = some (.int .i64 fa) ∧ wz.cell? ⟨bb, oo + i * 6 + 3, none⟩ = some (.int .i64 qa) ∧ wz.frozen? ⟨bb, oo + i * 6 + 3, none⟩ = false) := Lib.hid fun wz hb => by
        have hbw := below_next hbx.out hb
        exact ⟨(HBG.out.below hbw HBG.out.lt).cell 0, (BX.out.below hb BX.out.lt).cell 0, (BX.out.below hb BX.out.lt).cell 2, HC6.out wz hbw, (HA.out wz hbw 0).2.2.1⟩
      have HT : Hid (∀ w3, Below wx.heap.size wx w3 → Hid (Own (w3.setCell ⟨bb, oo + i * 6 + 3, none⟩ (.int .i64 (qa - fa))) 6 (.slice (some ⟨bb, oo, none⟩) n c) gl n (ocells (Bk.ln b.l F (j + 1)))) ∧ Hid (Blk (w3.setCell ⟨bb, oo + i * 6 + 3, none⟩ (.int .i64 (qa - fa))) g 76 #[.slice (some ⟨bb, oo, none⟩) n c, .int .i64 nx]) ∧ Hid (Only (fun x => x = g ∨ some x = gl) w (w3.setCell ⟨bb, oo + i * 6 + 3, none⟩ (.int .i64 (qa - fa)))) ∧ Hid (Mine w (w3.setCell ⟨bb, oo + i * 6 + 3, none⟩ (.int .i64 (qa - fa))) 3 (.slice (some ⟨fb, fo, none⟩) k cf) k (fcells F))) := Lib.hid fun w3 hb => by
        have hbw := below_next hbx.out hb
        obtain ⟨e1, _, _, e4⟩ := HA.out w3 hbw (qa - fa)
        refine ⟨Lib.hid (by rw [hnx2.out]; exact e4), Lib.hid ((HBG.out.below hbw HBG.out.lt).far (fun e => hglt.out.1 (by rw [e1, e])) _), Lib.hid ((HOn.out.then_below hbw).setCell (.inl (.inr e1.symm)) _), Lib.hid ((HMf.out.below hbw).far (hglt.out.2.2 bb e1) _ _)⟩
      obtain ⟨x0, x1, x2, x3, x4⟩ := HX.out wx (Below.refl _ _)
      go_region_with (go_at_call 43; (with_reducible refine (HAt.out _ hbx.out.drew).mono ?_); rintro e w3 ⟨rfl, hh⟩; have hb3 : Below wx.heap.size wx w3 := below_next (Below.refl _ _).drew hh; clear hh; obtain ⟨z0, z1, z2, z3, z4⟩ := HX.out w3 hb3)
      all_goals
        have hT := HT.out w3 hb3
        go_wp2
        go_roundg (k + 1 - (j + 1))
        case measure => exact HM.out
        case rel => exact ⟨j + 1, rfl, by omega, by first | rfl | go_num, hT.1, hT.2.1, hT.2.2.1, hT.2.2.2⟩
    · obtain rfl : k = j := by omega
      have hlk : Hid (Bk.ln b.l F k = F.foldl Bk.less b.l) := Lib.hid (by unfold Bk.ln; rw [List.take_of_length_le (by rw [hk.out]; exact Nat.le_refl _)])
      have HDl := Lib.hid (deletez_calls wr A (Bk.ln b.l F k) c gl (by rw [hlen.out]; exact HOw.out) (by rw [hlen.out]; exact hfew))
      have haf : Hid ((Bk.ln b.l F k).filter Ord.live = Bk.after b.l F) := Lib.hid (by rw [hlk.out]; rfl)
      rw [haf.out, hlen.out] at HDl
      have x0 := HBG.out.cell 0
      simp at x0
      obtain ⟨m2, hm2⟩ : ∃ m2, Hid ((Bk.after b.l F).length = m2) := ⟨_, Lib.hid rfl⟩
      clear HOw hlen hjk
      go_upto_region 9 with (fail)
      go_wp2_with (go_at_call 44; (with_reducible refine HDl.out.mono ?_); rintro e w4 ⟨A4, c4, rfl, hO4, hOn4⟩; rw [hm2.out] at hO4 ⊢; have HO4 := Lib.hid hO4; have HOn4 := Lib.hid hOn4; have HB4 : Hid (Blk w4 g 76 #[.slice A n c, .int .i64 nx]) := Lib.hid (by
        have e := hOn4.block g HBG.out.lt fun e => hglt.out.1 e.symm
        have hh := HBG.out
        unfold Blk at hh ⊢
        rw [e]; exact hh); have z0 := HB4.out.cell 0; simp at z0; have z1 := HB4.out.frozen 0; clear hO4 hOn4)
      refine bodyPost_ret (by simp [results, Try.results24, asAddr, go_sem]; rfl) rfl ?_
      refine ⟨Af, cf, rfl, ?_, ⟨⟨A4, c4, ?_, ?_⟩, hglt.out.1, hok.out⟩, ?_⟩
      · exact (HMf.out.only HOn4.out fun x hx => hglt.out.2.2 x hx.symm).far hglt.out.2.1 _ _
      · show Blk _ g _ #[.slice A4 (Bk.after b.l F).length c4, .int .i64 nx]
        rw [hm2.out]
        exact (blk_two HB4.out _).1
      · show Own _ 6 (.slice A4 (Bk.after b.l F).length c4) gl (Bk.after b.l F).length (ocells (Bk.after b.l F))
        rw [hm2.out]
        exact HO4.out.far hglt.out.1 _ _
      · exact (HOn.out.trans HOn4.out fun x hx => .inl (.inr hx)).setCell (.inl (.inl rfl)) _
end Go.Proofs.Ytilbhnloelgpdaa
namespace Go.Proofs.Ytilbhnloelgpdaa
open Go.RowKit
set_option linter.unusedVariables false
set_option linter.unusedSimpArgs false
/-- A book made behind w0, and nothing below has turned. -/
def Bw (w0 w : World) (g : Nat) (b : Bk) : Prop := ∃ gl, AtB w g gl b ∧ w0.heap.size ≤ g ∧ (∀ k, gl = some k → w0.heap.size ≤ k) ∧ Below w0.heap.size w0 w
section
variable {w0 w w' : World} {g : Nat} {b b' : Bk}
theorem Bw.all (h : Bw w0 w g b) : Below w0.heap.size w0 w := by
  obtain ⟨_, _, _, _, h⟩ := h
  exact h
theorem Bw.ok (h : Bw w0 w g b) : b.Ok := by
  obtain ⟨_, h, _⟩ := h
  exact h.ok
theorem Bw.below (h : Bw w0 w g b) (hb : Below w.heap.size w w') : Bw w0 w' g b := by
  obtain ⟨gl, h1, h2, h3, h4⟩ := h
  exact ⟨gl, h1.below hb, h2, h3, below_next h4 hb⟩
theorem Bw.turn {gl : Option Nat} (h1 : AtB w g gl b) (h2 : w0.heap.size ≤ g) (h3 : ∀ k, gl = some k → w0.heap.size ≤ k) (h4 : Below w0.heap.size w0 w) (ht : Turns w w' g gl b') : Bw w0 w' g b' := by
  obtain ⟨gl', t1, t2, t3⟩ := ht
  refine ⟨gl', t1, h2, fun k hk => ?_, h4.trans (t2.below h4.size fun k hk => ?_)⟩
  · rcases t3 with e | ⟨k', e, hk'⟩
    · exact h3 k (e ▸ hk)
    · rw [e] at hk; cases hk; exact Nat.le_trans h4.size hk'
  · rcases hk with rfl | hk
    · exact h2
    · exact h3 k hk.symm
theorem Bw.new (w : World) : Calls Try.prog 28 #[] w fun e w' => ∃ g, e = .returned (.pointer (some ⟨g, 0, none⟩)) ∧ Bw w w' g Bk.fresh :=
  (new_calls w).mono fun _ _ ⟨g, h1, h2, h3, h4⟩ => ⟨g, h1, none, h2, h3, nofun, h4⟩
theorem Bw.put (h : Bw w0 w g b) (q : Ord) : Calls Try.prog 32 #[.pointer (some ⟨g, 0, none⟩), oval q] w fun e w' => e = .returned (.int .i64 (b.put q).2) ∧ Bw w0 w' g (b.put q).1 := by
  obtain ⟨gl, h1, h2, h3, h4⟩ := h
  exact (put_calls w g gl b h1 q).mono fun _ _ ⟨e, ht⟩ => ⟨e, Bw.turn h1 h2 h3 h4 ht⟩
theorem Bw.get (h : Bw w0 w g b) (id : Int) : Calls Try.prog 26 #[.pointer (some ⟨g, 0, none⟩), .int .i64 id] w fun e w' => e = .returned (.tuple #[oval (b.get id).1, .bool (b.get id).2]) ∧ Below w.heap.size w w' := by
  obtain ⟨gl, h1, h2, h3, h4⟩ := h
  exact get_calls w g gl b h1 id
theorem Bw.orders (h : Bw w0 w g b) : Calls Try.prog 23 #[.pointer (some ⟨g, 0, none⟩)] w (Listed w b.l) := by
  obtain ⟨gl, h1, h2, h3, h4⟩ := h
  exact orders_calls w g gl b h1
theorem Bw.clear (h : Bw w0 w g b) : Calls Try.prog 24 #[.pointer (some ⟨g, 0, none⟩)] w fun e w' => ∃ A c, e = .returned (.tuple #[.int .i64 b.clear.2.1.1, .int .i64 b.clear.2.1.2, .slice A b.clear.2.2.length c]) ∧ Mine w w' 3 (.slice A b.clear.2.2.length c) b.clear.2.2.length (fcells b.clear.2.2) ∧ Bw w0 w' g b.clear.1 := by
  obtain ⟨gl, h1, h2, h3, h4⟩ := h
  exact (clear_calls w g gl b h1).mono fun _ _ ⟨A, c, e, hm, ha, ho⟩ => ⟨A, c, e, hm, Bw.turn h1 h2 h3 h4 ⟨gl, ha, ho, .inl rfl⟩⟩
end
end Go.Proofs.Ytilbhnloelgpdaa
namespace Go.Proofs.Ytilbhnloelgpdaa
open Go.RowKit
set_option linter.unusedVariables false
set_option linter.unusedSimpArgs false
theorem eq_fill (w : World) (a b c : Int) : (Op.equalIn 10000 44 (.agg #[.int .i64 a, .int .i64 b, .int .i64 c]) (.agg #[.int .i64 a, .int .i64 b, .int .i64 c])).run Try.prog w = .ok true w := by
  simp [Op.eqFields, part, go_sem, Try.underlying44, Try.isAgg3]
def ab1 : Bk := ⟨[⟨1, 0, 10, 5, 1, true⟩], 2⟩
def ab2 : Bk := ⟨[⟨1, 0, 10, 5, 1, true⟩, ⟨2, 1, 8, 3, 2, false⟩], 3⟩
def ab3 : Bk := ⟨[⟨1, 0, 10, 2, 1, true⟩], 3⟩
theorem ab_one : Bk.fresh.put ⟨1, 0, 10, 5, 0, true⟩ = (ab1, 0) := by rfl
theorem ab_two : ab1.put ⟨2, 1, 8, 3, 0, false⟩ = (ab2, 0) := by rfl
theorem ab_three : ab2.put ⟨2, 0, 1, 1, 0, false⟩ = (ab2, 63) := by rfl
theorem ab_clear : ab2.clear = (ab3, (8, 3), [⟨1, 0, 3⟩, ⟨2, 1, 3⟩]) := by rfl
theorem ab_get : ab3.get 1 = (⟨1, 0, 10, 2, 1, true⟩, true) := by rfl
set_option maxHeartbeats 8000000 in
set_option maxRecDepth 100000 in
theorem awake_calls (w : World) : Calls Try.prog 20 #[] w (Told w (.bool true)) := by
  have K0 := Lib.hid (Bw.new w)
  have K1 : Hid (∀ wx g, Bw w wx g Bk.fresh → Calls Try.prog 32 #[.pointer (some ⟨g, 0, none⟩), .agg #[.int .i64 1, .int .i64 0, .int .i64 10, .int .i64 5, .int .i64 0, .bool true]] wx fun e w' => e = .returned (.int .i64 0) ∧ Bw w w' g ab1) := Lib.hid fun wx g h => by
    have := h.put ⟨1, 0, 10, 5, 0, true⟩
    rwa [ab_one] at this
  have K2 : Hid (∀ wx g, Bw w wx g ab1 → Calls Try.prog 32 #[.pointer (some ⟨g, 0, none⟩), .agg #[.int .i64 2, .int .i64 1, .int .i64 8, .int .i64 3, .int .i64 0, .bool false]] wx fun e w' => e = .returned (.int .i64 0) ∧ Bw w w' g ab2) := Lib.hid fun wx g h => by
    have := h.put ⟨2, 1, 8, 3, 0, false⟩
    rwa [ab_two] at this
  have K3 : Hid (∀ wx g, Bw w wx g ab2 → Calls Try.prog 32 #[.pointer (some ⟨g, 0, none⟩), .agg #[.int .i64 2, .int .i64 0, .int .i64 1, .int .i64 1, .int .i64 0, .bool false]] wx fun e w' => e = .returned (.int .i64 63) ∧ Bw w w' g ab2) := Lib.hid fun wx g h => by
    have := h.put ⟨2, 0, 1, 1, 0, false⟩
    rwa [ab_three] at this
  have K4 : Hid (∀ wx g, Bw w wx g ab2 → Calls Try.prog 24 #[.pointer (some ⟨g, 0, none⟩)] wx fun e w' => ∃ A c, e = .returned (.tuple #[.int .i64 8, .int .i64 3, .slice A 2 c]) ∧ Mine wx w' 3 (.slice A 2 c) 2 (fcells [⟨1, 0, 3⟩, ⟨2, 1, 3⟩]) ∧ Bw w w' g ab3) := Lib.hid fun wx g h => by
    have := h.clear
    rwa [ab_clear] at this
  have K5 : Hid (∀ wx g, Bw w wx g ab3 → Calls Try.prog 26 #[.pointer (some ⟨g, 0, none⟩), .int .i64 1] wx fun e w' => e = .returned (.tuple #[.agg #[.int .i64 1, .int .i64 0, .int .i64 10, .int .i64 2, .int .i64 1, .bool true], .bool true]) ∧ Below wx.heap.size wx w') := Lib.hid fun wx g h => by
    have := h.get 1
    rwa [ab_get] at this
  have K6 : Hid (∀ wx g, Bw w wx g ab3 → Calls Try.prog 23 #[.pointer (some ⟨g, 0, none⟩)] wx fun e w' => ∃ A c, e = .returned (.slice A 1 c) ∧ Below wx.heap.size wx w') := Lib.hid fun wx g h => (h.orders).mono fun _ _ ⟨A, c, h1, h2, h3⟩ => ⟨A, c, h1, h3⟩
  go_enter Try.func20, Try.ntmps20
  go_upto_region 4 with (first
    | (go_at_call 28; (with_reducible refine K0.out.mono ?_); rintro e w1 ⟨g, rfl, hh⟩; have H0 := Lib.hid hh; clear hh)
    | (go_at_call 32; first
      | ((with_reducible refine (K3.out _ _ H2.out).mono ?_); rintro e w4 ⟨rfl, hh⟩; have H3 := Lib.hid hh; clear hh)
      | ((with_reducible refine (K2.out _ _ H1.out).mono ?_); rintro e w3 ⟨rfl, hh⟩; have H2 := Lib.hid hh; clear hh)
      | ((with_reducible refine (K1.out _ _ H0.out).mono ?_); rintro e w2 ⟨rfl, hh⟩; have H1 := Lib.hid hh; clear hh)))
  go_upto_region 5 with (go_at_call 24; (with_reducible refine (K4.out _ _ H3.out).mono ?_); rintro e w5 ⟨A5, c5, rfl, hm, hh⟩; have H5 := Lib.hid hh; have HM5 := Lib.hid hm; clear hh hm)
  go_upto_region 6 with (go_at_call 26; (with_reducible refine (K5.out _ _ H5.out).mono ?_); rintro e w6 ⟨rfl, hh⟩; have hb6 := Lib.hid hh; clear hh)
  have HX : Hid (Below w.heap.size w (w6.alloc (.cells #[.int .i64 1, .int .i64 0, .int .i64 10, .int .i64 2, .int .i64 1, .bool true] 33)) ∧ Below w5.heap.size w5 (w6.alloc (.cells #[.int .i64 1, .int .i64 0, .int .i64 10, .int .i64 2, .int .i64 1, .bool true] 33)) ∧ Bw w (w6.alloc (.cells #[.int .i64 1, .int .i64 0, .int .i64 10, .int .i64 2, .int .i64 1, .bool true] 33)) g ab3) := Lib.hid (by
    have h5 := hb6.out.alloc hb6.out.size (.cells #[.int .i64 1, .int .i64 0, .int .i64 10, .int .i64 2, .int .i64 1, .bool true] 33)
    exact ⟨below_next H5.out.all h5, h5, H5.out.below h5⟩)
  have BX := Lib.hid (Blk.new w6 33 #[.int .i64 1, .int .i64 0, .int .i64 10, .int .i64 2, .int .i64 1, .bool true])
  obtain ⟨kk, hkk⟩ : ∃ kk, Hid (w6.heap.size = kk) := ⟨_, Lib.hid rfl⟩
  rw [hkk.out] at BX ⊢
  generalize World.alloc w6 _ = w7 at HX BX ⊢
  obtain ⟨fb, fo, rfl⟩ : ∃ b o, A5 = some ⟨b, o, none⟩ := by
    obtain ⟨b, o, e, _⟩ := (HM5.out.frow rfl).2.cells (i := 0) (by decide)
    exact ⟨b, o, e⟩
  obtain ⟨c0, c1, c2⟩ : w7.cell? ⟨fb, fo, none⟩ = some (.int .i64 1) ∧ w7.cell? ⟨fb, fo + 1, none⟩ = some (.int .i64 0) ∧ w7.cell? ⟨fb, fo + 2, none⟩ = some (.int .i64 3) := by
    have := FRow.three (HM5.out.frow rfl).2 (i := 0) (by decide) HX.out.2.1
    simpa [fil0] using this
  have c3 : w7.cell? ⟨kk, 3, none⟩ = some (.int .i64 2) := BX.out.cell 3
  have hq : ∀ wx, (binOp .eql 44 (.agg #[.int .i64 1, .int .i64 0, .int .i64 3]) (.agg #[.int .i64 1, .int .i64 0, .int .i64 3])).run Try.prog wx = .ok (.bool true) wx := fun wx => by
    simp [binOp, Op.equal, Op.maxDepth, go_sem, eq_fill]
  have K6x := Lib.hid (K6.out _ _ HX.out.2.2)
  go_wp2_with (go_at_call 23; (with_reducible refine K6x.out.mono ?_); rintro e w8 ⟨A8, c8, rfl, hh⟩; have hb8 := Lib.hid hh; clear hh)
  refine bodyPost_ret (by simp [results, Try.results20, asAddr, go_sem]; rfl) rfl ?_
  exact ⟨rfl, below_next HX.out.1 hb8.out⟩
end Go.Proofs.Ytilbhnloelgpdaa
