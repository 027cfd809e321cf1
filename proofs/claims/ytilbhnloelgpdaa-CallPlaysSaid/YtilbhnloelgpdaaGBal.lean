/- The reference's Fills, in plain: an order goes to its place from the right end; who is filled. What a clearing trades, in plain: as much bought as sold, the better first, and nothing is left to trade. -/
import Derived.Test.YtilbhnloelgpdaaGClr
namespace Go.Proofs.Ytilbhnloelgpdaa
open Go.RowKit
set_option linter.unusedVariables false
set_option linter.unusedSimpArgs false
/-- o goes to place k in S, where all behind stand behind o and the one ahead does not. -/
theorem rins_stab {sd : Bool} {M S : List Ord} {o : Ord} {k : Nat} (h : Stab (fst sd) M S) (hk : k ≤ S.length) (h2 : ∀ x ∈ S.drop k, fst sd o x = true) (h1 : k = 0 ∨ fst sd o (S.getD (k - 1) ord0) = false) : Stab (fst sd) (M ++ [o]) (S.take k ++ o :: S.drop k) := by
  have hw := fst_swo sd
  have e : S.take k ++ S.drop k = S := List.take_append_drop ..
  have hs : Stab (fst sd) (S.take k ++ S.drop k ++ [o]) (S.take k ++ o :: S.drop k) := by
    refine stab_insert hw (by rw [e]; exact h.sorted) (fun x hx => ?_) h2
    rcases h1 with rfl | h1
    · simp at hx
    · obtain ⟨j, hj, ej⟩ := List.getElem_of_mem hx
      rw [List.length_take] at hj
      rw [List.getElem_take] at ej
      have hk1 : k - 1 < S.length := by omega
      have e1 : S.getD (k - 1) ord0 = S[k - 1] := by rw [List.getD_eq_getElem?_getD, List.getElem?_eq_getElem hk1]; rfl
      rw [e1] at h1
      by_cases hjk : j = k - 1
      · subst hjk; rw [← ej]; exact h1
      · have h3 : fst sd S[k - 1] S[j] = false := List.pairwise_iff_getElem.1 h.sorted j (k - 1) (by omega) hk1 (by omega)
        rw [← ej]
        exact hw.le_trans h3 h1
  rw [e] at hs
  exact Stab.of_alike (B := S ++ [o]) (fun x => by rw [cls_append, cls_append, h.alike]) (by rw [List.length_append, List.length_append, h.len]) hs
theorem drop_cons_all {p : Ord → Bool} {S : List Ord} {k : Nat} (hk : k < S.length) (h0 : p (S.getD k ord0) = true) (h : ∀ x ∈ S.drop (k + 1), p x = true) : ∀ x ∈ S.drop k, p x = true := by
  intro x hx
  rw [List.drop_eq_getElem_cons hk] at hx
  rcases List.mem_cons.1 hx with rfl | hx
  · have e1 : S.getD k ord0 = S[k] := by rw [List.getD_eq_getElem?_getD, List.getElem?_eq_getElem hk]; rfl
    rw [← e1]; exact h0
  · exact h x hx
namespace Ca
def sideR (sd : Bool) (p : Int) (L : List Ord) (i : Nat) : List Ord := sideOf sd p ((L.take i).filter Ord.right)
theorem sideR_zero (sd : Bool) (p : Int) (L : List Ord) : sideR sd p L 0 = [] := by simp [sideR, sideOf]
theorem sideR_all (sd : Bool) (p : Int) (L : List Ord) (h : L.length ≤ 64) : sideR sd p L L.length = sideOf sd p (rights L) := by
  unfold sideR rights
  rw [List.take_length, if_neg (by omega)]
theorem sideR_next (sd : Bool) (p : Int) (L : List Ord) {k : Nat} (h : k < L.length) : sideR sd p L (k + 1) = sideR sd p L k ++ (if (L.getD k ord0).right = true ∧ good sd p (L.getD k ord0) = true then [L.getD k ord0] else []) := by
  unfold sideR
  rw [take_at L h, List.filter_append, filter_one]
  unfold sideOf
  rw [List.filter_append]
  congr 1
  generalize L.getD k ord0 = q
  by_cases hr : q.right = true
  · rw [if_pos hr]
    by_cases hg : good sd p q = true
    · rw [if_pos ⟨hr, hg⟩, List.filter_cons_of_pos hg]; rfl
    · rw [if_neg fun hh => hg hh.2, List.filter_cons_of_neg hg]; rfl
  · rw [if_neg hr, if_neg fun hh => hr hh.1]; rfl
theorem sideR_few (sd : Bool) (p : Int) (L : List Ord) (i : Nat) : (sideR sd p L i).length ≤ i := by
  unfold sideR sideOf
  have h1 := List.length_filter_le (good sd p) ((L.take i).filter Ord.right)
  have h2 := List.length_filter_le Ord.right (L.take i)
  rw [List.length_take] at h2
  omega
theorem sideR_right {sd : Bool} {p : Int} {L : List Ord} {i : Nat} {o : Ord} (h : o ∈ sideR sd p L i) : 1 ≤ o.amount ∧ o.amount ≤ 1048576 ∧ o.buys = sd := by
  have h1 := (Ord.right_iff o).1 (List.mem_filter.1 (List.mem_filter.1 h).1).2
  exact ⟨by omega, by omega, sideOf_buys o h⟩
theorem fillGo_none : ∀ (l : List Ord) (n : Int), n ≤ 0 → fillGo n l = []
  | [], _, _ => rfl
  | q :: l, n, h => by
    unfold fillGo
    rw [if_neg (by omega)]
    exact fillGo_none l n h
theorem fillGo_append : ∀ (l m : List Ord) (n : Int), fillGo n (l ++ m) = fillGo n l ++ fillGo (leftGo n l) m
  | [], m, n => rfl
  | q :: l, m, n => by
    simp only [List.cons_append, fillGo, leftGo]
    split
    · rw [List.cons_append, fillGo_append l m]
    · exact fillGo_append l m n
theorem fillGo_done (l : List Ord) (n : Int) {i : Nat} (h : leftGo n (l.take i) ≤ 0) : fillGo n (l.take i) = fillGo n l := by
  have e : l = l.take i ++ l.drop i := (List.take_append_drop ..).symm
  conv => rhs; rw [e, fillGo_append, fillGo_none _ _ h, List.append_nil]
/-- One more is filled. -/
theorem fillGo_take (l : List Ord) (n : Int) {i : Nat} (hi : i < l.length) (hp : 0 < leftGo n (l.take i)) (ha : 1 ≤ (l.getD i ord0).amount) :
    fillGo n (l.take (i + 1)) = fillGo n (l.take i) ++ [⟨(l.getD i ord0).id, (l.getD i ord0).owner, min (leftGo n (l.take i)) (l.getD i ord0).amount⟩] ∧ leftGo n (l.take (i + 1)) = leftGo n (l.take i) - min (leftGo n (l.take i)) (l.getD i ord0).amount := by
  rw [take_at l hi, fillGo_snoc, leftGo_snoc, if_pos (by omega), if_pos (by omega)]
  exact ⟨rfl, rfl⟩
end Ca
end Go.Proofs.Ytilbhnloelgpdaa
namespace Go.Proofs.Ytilbhnloelgpdaa
open Go.RowKit
set_option linter.unusedVariables false
set_option linter.unusedSimpArgs false
set_option linter.unusedSectionVars false
namespace Ca
def tot (l : List Ord) : Int := (l.map (·.amount)).sum
def ftot (F : List Fil) : Int := (F.map (·.amount)).sum
theorem tot_cons (o : Ord) (l : List Ord) : tot (o :: l) = o.amount + tot l := by simp [tot]
theorem tot_append (l m : List Ord) : tot (l ++ m) = tot l + tot m := by simp [tot]
theorem ftot_cons (f : Fil) (F : List Fil) : ftot (f :: F) = f.amount + ftot F := by simp [ftot]
theorem ftot_append (l m : List Fil) : ftot (l ++ m) = ftot l + ftot m := by simp [ftot]
theorem tot_perm {l m : List Ord} (h : l.Perm m) : tot l = tot m := by
  induction h with
  | nil => rfl
  | cons x _ ih => rw [tot_cons, tot_cons, ih]
  | swap x y l => rw [tot_cons, tot_cons, tot_cons, tot_cons]; omega
  | trans _ _ h1 h2 => rw [h1, h2]
theorem tot_nonneg {l : List Ord} (h : ∀ o ∈ l, 1 ≤ o.amount) : 0 ≤ tot l := by
  induction l with
  | nil => simp [tot]
  | cons o l ih =>
    have h1 := h o (List.mem_cons_self ..)
    have h2 := ih fun q hq => h q (List.mem_cons_of_mem _ hq)
    rw [tot_cons]; omega
theorem tot_sub {l m : List Ord} (hs : l.Sublist m) (h : ∀ o ∈ m, 1 ≤ o.amount) : tot l ≤ tot m := by
  induction hs with
  | slnil => exact Int.le_refl _
  | cons a _ ih =>
    have h1 := h a (List.mem_cons_self ..)
    have h2 := ih fun q hq => h q (List.mem_cons_of_mem _ hq)
    rw [tot_cons]; omega
  | cons_cons a _ ih =>
    have h2 := ih fun q hq => h q (List.mem_cons_of_mem _ hq)
    rw [tot_cons, tot_cons]; omega
theorem tot_filter {l : List Ord} (h : ∀ o ∈ l, 1 ≤ o.amount) {f g : Ord → Bool} (hfg : ∀ o ∈ l, f o = true → g o = true) : tot (l.filter f) ≤ tot (l.filter g) := by
  induction l with
  | nil => exact Int.le_refl _
  | cons o l ih =>
    have h1 := h o (List.mem_cons_self ..)
    have h2 := ih (fun q hq => h q (List.mem_cons_of_mem _ hq)) fun q hq => hfg q (List.mem_cons_of_mem _ hq)
    have h3 := hfg o (List.mem_cons_self ..)
    by_cases hf : f o = true
    · rw [List.filter_cons_of_pos hf, List.filter_cons_of_pos (h3 hf), tot_cons, tot_cons]; omega
    · rw [List.filter_cons_of_neg hf]
      by_cases hg : g o = true
      · rw [List.filter_cons_of_pos hg, tot_cons]; omega
      · rw [List.filter_cons_of_neg hg]; exact h2
theorem tot_side (L : List Ord) (p : Int) : tot (sideOf true p L) = bought L p ∧ tot (sideOf false p L) = sold L p := by
  constructor
  · unfold tot sideOf bought
    congr 2
    refine List.filter_congr fun o _ => ?_
    cases hb : o.buys <;> simp [good, hb]
  · unfold tot sideOf sold
    congr 2
    refine List.filter_congr fun o _ => ?_
    cases hb : o.buys <;> simp [good, hb]
theorem fill_total : ∀ (l : List Ord) (n : Int), 0 ≤ n → (∀ o ∈ l, 1 ≤ o.amount) → ftot (fillGo n l) = min n (tot l)
  | [], n, h, _ => by simp [fillGo, ftot, tot]; omega
  | q :: l, n, h, ha => by
    have h1 := ha q (List.mem_cons_self ..)
    have h2 := tot_nonneg (l := l) fun o ho => ha o (List.mem_cons_of_mem _ ho)
    have ih := fun m hm => fill_total l m hm fun o ho => ha o (List.mem_cons_of_mem _ ho)
    unfold fillGo
    rw [tot_cons]
    split
    · rw [ftot_cons, ih _ (by omega)]
      show min n q.amount + _ = _
      omega
    · rw [ih _ h]; omega
theorem got_append (F G : List Fil) (id : Int) : Bk.got (F ++ G) id = Bk.got F id + Bk.got G id := by simp [Bk.got]
/-- Where an order is not filled whole, no more is left than up to it. -/
theorem fill_short : ∀ (l : List Ord) (n : Int), 0 ≤ n → (∀ o ∈ l, 1 ≤ o.amount) → (l.Pairwise fun x y => x.id ≠ y.id) → ∀ {x : Ord}, x ∈ l → Bk.got (fillGo n l) x.id < x.amount → ∃ l1 l2, l = l1 ++ x :: l2 ∧ n < tot l1 + x.amount
  | [], n, _, _, _, x, hx, _ => by cases hx
  | q :: l, n, h, ha, hp, x, hx, hg => by
    have h1 := ha q (List.mem_cons_self ..)
    obtain ⟨p1, p2⟩ := List.pairwise_cons.1 hp
    have hz : ∀ m, Bk.got (fillGo m l) q.id = 0 := fun m => Bk.got_none fun f hf e => by
      obtain ⟨o, ho, e1, _⟩ := fillGo_mem l m hf
      exact p1 o ho (by rw [← e, e1])
    rcases List.mem_cons.1 hx with rfl | hx
    · refine ⟨[], l, rfl, ?_⟩
      unfold fillGo at hg
      split at hg
      · rw [Bk.got_cons, if_pos rfl, hz] at hg
        have hg' : min n x.amount + 0 < x.amount := hg
        simp [tot]; omega
      · simp [tot]; omega
    · have hne : q.id ≠ x.id := p1 x hx
      have ih := fun m hm hh => fill_short l m hm (fun o ho => ha o (List.mem_cons_of_mem _ ho)) p2 hx hh
      unfold fillGo at hg
      split at hg
      · rw [Bk.got_cons, if_neg hne] at hg
        obtain ⟨l1, l2, e, h3⟩ := ih (n - min n q.amount) (by omega) (by omega)
        exact ⟨q :: l1, l2, by rw [e]; rfl, by rw [tot_cons]; omega⟩
      · obtain ⟨l1, l2, e, h3⟩ := ih n h hg
        exact ⟨q :: l1, l2, by rw [e]; rfl, by rw [tot_cons]; omega⟩
/-- Where one is filled, all ahead are filled whole. -/
theorem fill_first {lt : Ord → Ord → Bool} (hw : Swo lt) : ∀ (l : List Ord) (n : Int), (∀ o ∈ l, 1 ≤ o.amount) → (l.Pairwise fun x y => x.id ≠ y.id) → Sortd lt l → ∀ {x y : Ord} {f : Fil}, x ∈ l → y ∈ l → f ∈ fillGo n l → f.id = y.id → lt x y = true → Bk.got (fillGo n l) x.id = x.amount
  | [], n, _, _, _, x, y, f, hx, _, _, _, _ => by cases hx
  | q :: l, n, ha, hp, hs, x, y, f, hx, hy, hf, hfy, hxy => by
    have h1 := ha q (List.mem_cons_self ..)
    obtain ⟨p1, p2⟩ := List.pairwise_cons.1 hp
    obtain ⟨s1, s2⟩ := List.pairwise_cons.1 hs
    have hyq : y ≠ q := by
      rintro rfl
      rcases List.mem_cons.1 hx with rfl | hx
      · rw [hw.irr] at hxy; cases hxy
      · rw [s1 x hx] at hxy; cases hxy
    have hy' : y ∈ l := by
      rcases List.mem_cons.1 hy with e | hy
      · exact absurd e hyq
      · exact hy
    have hne : q.id ≠ y.id := p1 y hy'
    have hz : ∀ m, Bk.got (fillGo m l) q.id = 0 := fun m => Bk.got_none fun f hf e => by
      obtain ⟨o, ho, e1, _⟩ := fillGo_mem l m hf
      exact p1 o ho (by rw [← e, e1])
    unfold fillGo at hf ⊢
    split at hf
    · rename_i hpos
      rw [if_pos hpos, Bk.got_cons]
      have hf' : f ∈ fillGo (n - min n q.amount) l := by
        rcases List.mem_cons.1 hf with rfl | hf
        · exact absurd hfy hne
        · exact hf
      rcases List.mem_cons.1 hx with rfl | hx
      · rw [if_pos rfl, hz]
        by_cases hl : n - min n x.amount ≤ 0
        · rw [fillGo_none l _ hl] at hf'; cases hf'
        · show min n x.amount + 0 = x.amount
          omega
      · rw [if_neg (p1 x hx), fill_first hw l _ (fun o ho => ha o (List.mem_cons_of_mem _ ho)) p2 s2 hx hy' hf' hfy hxy, Int.zero_add]
    · rename_i hpos
      have : n ≤ 0 := by omega
      rw [fillGo_none l _ this] at hf; cases hf
end Ca
namespace Bk
section
variable {b : Bk} (h : b.Ok)
include h
theorem amt : ∀ o ∈ b.l, 1 ≤ o.amount ∧ o.amount ≤ 1048576 := fun o ho => by
  have := (Ord.right_iff o).1 (h.right o ho); omega
/-- The side's list of a clearing. -/
theorem side_facts (sd : Bool) (p : Int) : (∀ o ∈ isort sd (Ca.sideOf sd p b.l), o ∈ b.l ∧ Ca.good sd p o = true ∧ 1 ≤ o.amount) ∧ ((isort sd (Ca.sideOf sd p b.l)).Pairwise fun x y => x.id ≠ y.id) ∧ Sortd (fst sd) (isort sd (Ca.sideOf sd p b.l)) := by
  have hm : ∀ o ∈ isort sd (Ca.sideOf sd p b.l), o ∈ b.l ∧ Ca.good sd p o = true := fun o ho => List.mem_filter.1 ((Ca.isort_perm _ _).mem_iff.1 ho)
  refine ⟨fun o ho => ⟨(hm o ho).1, (hm o ho).2, (amt h o (hm o ho).1).1⟩, ?_, (isort_stab _ _).sorted⟩
  exact ((Ca.isort_perm sd (Ca.sideOf sd p b.l)).pairwise_iff (fun h => Ne.symm h)).2 (h.ids.sublist List.filter_sublist)
theorem good_buys {sd : Bool} {p : Int} {o : Ord} (hg : Ca.good sd p o = true) : o.buys = sd ∧ (sd = true → p ≤ o.price) ∧ (sd = false → o.price ≤ p) := by
  unfold Ca.good at hg
  simp only [Bool.and_eq_true, beq_iff_eq] at hg
  obtain ⟨h1, h2⟩ := hg
  refine ⟨h1, fun e => ?_, fun e => ?_⟩
  · rw [e, if_pos rfl] at h2; simpa using h2
  · rw [e, if_neg (by decide)] at h2; simpa using h2
/-- Who is filled. -/
theorem fill_of {p n : Int} {f : Fil} (hf : f ∈ Ca.fills b.l p n) : ∃ o ∈ b.l, f.id = o.id ∧ f.owner = o.owner ∧ 1 ≤ f.amount ∧ f.amount ≤ o.amount ∧ (o.buys = true → p ≤ o.price) ∧ (o.buys = false → o.price ≤ p) := by
  unfold Ca.fills at hf
  rw [rights_all h] at hf
  rcases List.mem_append.1 hf with hf | hf
  all_goals
    obtain ⟨o, h1, h2, h3, h4, h5⟩ := Ca.fillGo_mem _ _ hf
    obtain ⟨k1, k2, _⟩ := (side_facts h _ p).1 o h1
    obtain ⟨g1, g2, g3⟩ := good_buys h k2
    exact ⟨o, k1, h2, h3, h4, h5, fun e => by first | exact g2 rfl | (rw [g1] at e; cases e), fun e => by first | exact g3 rfl | (rw [g1] at e; cases e)⟩
theorem get_in {L : List Ord} {nx : Int} (hp : L.Pairwise fun x y => x.id ≠ y.id) {o : Ord} (ho : o ∈ L) : Bk.get ⟨L, nx⟩ o.id = (o, true) := by
  unfold get
  have hi : ix L o.id < L.length := ix_mem.2 ⟨o, ho, rfl⟩
  show (if ix L o.id < L.length then (L.getD (ix L o.id) ord0, true) else _) = _
  rw [if_pos hi, Ca.id_inj hp (getD_mem hi) ho (ix_id hi)]
theorem get_out {L : List Ord} {nx id : Int} (ho : ∀ o ∈ L, o.id ≠ id) : Bk.get ⟨L, nx⟩ id = (ord0, false) := by
  unfold get
  show (if ix L id < L.length then _ else _) = _
  rw [if_neg fun hi => ?_]
  obtain ⟨o, h1, h2⟩ := ix_mem.1 hi
  exact ho o h1 h2
/-- What is left of an order. -/
theorem get_after {o : Ord} (ho : o ∈ b.l) : b.clear.1.get o.id = if got b.clear.2.2 o.id < o.amount then ({ o with amount := o.amount - got b.clear.2.2 o.id }, true) else (ord0, false) := by
  have hc := clear_ok h
  have hr := got_range h (Ca.cross b.l).1 (Ca.cross b.l).2 ho
  show Bk.get ⟨after b.l (Ca.fills b.l (Ca.cross b.l).1 (Ca.cross b.l).2), b.next⟩ o.id = if got (Ca.fills b.l (Ca.cross b.l).1 (Ca.cross b.l).2) o.id < o.amount then ({ o with amount := o.amount - got (Ca.fills b.l (Ca.cross b.l).1 (Ca.cross b.l).2) o.id }, true) else (ord0, false)
  have hids : (after b.l (Ca.fills b.l (Ca.cross b.l).1 (Ca.cross b.l).2)).Pairwise fun x y => x.id ≠ y.id := hc.ids
  have hmem := fun {x : Ord} (hx : x ∈ after b.l (Ca.fills b.l (Ca.cross b.l).1 (Ca.cross b.l).2)) => after_mem h _ _ hx
  obtain ⟨i, hi, e⟩ := List.getElem_of_mem ho
  have hat := fold_at (Ca.fills b.l (Ca.cross b.l).1 (Ca.cross b.l).2) b.l h.ids hi
  have e1 : b.l.getD i ord0 = o := by rw [List.getD_eq_getElem?_getD, List.getElem?_eq_getElem hi, ← e]; rfl
  rw [e1] at hat
  generalize Ca.fills b.l (Ca.cross b.l).1 (Ca.cross b.l).2 = F at *
  by_cases hg : got F o.id < o.amount
  · rw [if_pos hg]
    have hin : ({ o with amount := o.amount - got F o.id } : Ord) ∈ after b.l F := by
      refine List.mem_filter.2 ⟨?_, by simp; omega⟩
      rw [← hat]
      exact getD_mem (by rw [fold_length]; exact hi)
    exact get_in h hids hin
  · rw [if_neg hg]
    refine get_out h fun x hx e2 => ?_
    obtain ⟨y, hy, e3, h3, h4⟩ := hmem hx
    have : y = o := Ca.id_inj h.ids hy ho (by rw [e3] at e2; exact e2)
    subst this
    rw [e3] at h3
    have h3' : 1 ≤ y.amount - got F y.id := h3
    omega
/-- CallFirst's law. -/
theorem first_full {p n : Int} {x y : Ord} {f : Fil} (hx : x ∈ b.l) (hy : y ∈ b.l) (hf : f ∈ Ca.fills b.l p n) (hfy : f.id = y.id) (hs : y.buys = x.buys) (hb : fst x.buys x y = true) : got (Ca.fills b.l p n) x.id = x.amount := by
  have key : ∀ sd, x.buys = sd → f ∈ Ca.fillGo n (isort sd (Ca.sideOf sd p b.l)) → got (Ca.fillGo n (isort sd (Ca.sideOf sd p b.l))) x.id = x.amount := fun sd e hf => by
    obtain ⟨k1, k2, k3⟩ := side_facts h sd p
    obtain ⟨o, h1, h2, _⟩ := Ca.fillGo_mem _ _ hf
    obtain ⟨m1, m2, _⟩ := k1 o h1
    have : o = y := Ca.id_inj h.ids m1 hy (by rw [← h2, hfy])
    subst this
    obtain ⟨_, g2, g3⟩ := good_buys h m2
    rw [e] at hb
    have hgx : Ca.good sd p x = true := by
      unfold Ca.good
      unfold fst at hb
      rw [e]
      cases sd with
      | true =>
        have := g2 rfl
        simp only [beq_self_eq_true, Bool.true_and, if_pos]
        split at hb
        · rename_i e2; rw [e2]; simpa using this
        · rw [if_pos rfl] at hb
          have : o.price < x.price := by simpa using hb
          simp; omega
      | false =>
        have := g3 rfl
        simp only [beq_self_eq_true, Bool.true_and]
        split at hb
        · rename_i e2; rw [e2]; simpa using this
        · rw [if_neg (by decide)] at hb
          have : x.price < o.price := by simpa using hb
          simp; omega
    exact Ca.fill_first (fst_swo sd) _ n (fun o ho => (k1 o ho).2.2) k2 k3 ((Ca.isort_perm _ _).mem_iff.2 (List.mem_filter.2 ⟨hx, hgx⟩)) h1 hf hfy hb
  have off : ∀ sd, x.buys ≠ sd → got (Ca.fillGo n (isort sd (Ca.sideOf sd p b.l))) x.id = 0 := fun sd e => got_none fun g hg e2 => by
    obtain ⟨o, h1, h2, _⟩ := Ca.fillGo_mem _ _ hg
    obtain ⟨m1, m2, _⟩ := (side_facts h sd p).1 o h1
    have : o = x := Ca.id_inj h.ids m1 hx (by rw [← h2, e2])
    subst this
    exact e (good_buys h m2).1
  have side : ∀ sd, f ∈ Ca.fillGo n (isort sd (Ca.sideOf sd p b.l)) → x.buys = sd := fun sd hf => by
    obtain ⟨o, h1, h2, _⟩ := Ca.fillGo_mem _ _ hf
    obtain ⟨m1, m2, _⟩ := (side_facts h sd p).1 o h1
    have : o = y := Ca.id_inj h.ids m1 hy (by rw [← h2, hfy])
    subst this
    rw [← hs]; exact (good_buys h m2).1
  unfold Ca.fills at hf ⊢
  rw [rights_all h] at hf ⊢
  rw [Ca.got_append]
  rcases List.mem_append.1 hf with hf | hf
  · have e := side _ hf
    rw [key _ e hf, off false (by rw [e]; decide)]; omega
  · have e := side _ hf
    rw [key _ e hf, off true (by rw [e]; decide)]; omega
theorem cross_n : 0 ≤ (Ca.cross b.l).2 ∧ (Ca.cross b.l).2 ≤ Ca.bought b.l (Ca.cross b.l).1 ∧ (Ca.cross b.l).2 ≤ Ca.sold b.l (Ca.cross b.l).1 := by
  have h0 : 0 ≤ (Ca.cross b.l).2 := (Ca.cross_best (Ca.rights b.l)).pos
  have ha : ∀ o ∈ b.l, 1 ≤ o.amount := fun o ho => (amt h o ho).1
  by_cases hn : 0 < (Ca.cross b.l).2
  · have := Ca.cross_at b.l hn
    rw [rights_all h] at this
    unfold Ca.traded at this
    omega
  · have h1 := Ca.bought_nonneg ha (Ca.cross b.l).1
    have h2 := Ca.sold_nonneg ha (Ca.cross b.l).1
    omega
/-- How much of one side is filled. -/
theorem side_total (sd : Bool) : Ca.ftot (Ca.fillGo (Ca.cross b.l).2 (isort sd (Ca.sideOf sd (Ca.cross b.l).1 b.l))) = (Ca.cross b.l).2 := by
  obtain ⟨h0, h1, h2⟩ := cross_n h
  rw [Ca.fill_total _ _ h0 fun o ho => ((side_facts h sd _).1 o ho).2.2, Ca.tot_perm (Ca.isort_perm _ _)]
  cases sd
  · rw [(Ca.tot_side _ _).2]; omega
  · rw [(Ca.tot_side _ _).1]; omega
/-- Nothing is left to trade. -/
theorem none_left {q : Int} {u v : Ord} (hu : u ∈ b.l) (hv : v ∈ b.l) (bu : u.buys = true) (bv : v.buys = false) (pu : q ≤ u.price) (pv : v.price ≤ q) (gu : got (Ca.fills b.l (Ca.cross b.l).1 (Ca.cross b.l).2) u.id < u.amount) (gv : got (Ca.fills b.l (Ca.cross b.l).1 (Ca.cross b.l).2) v.id < v.amount) : False := by
  obtain ⟨h0, hB, hS⟩ := cross_n h
  have ha : ∀ o ∈ b.l, 1 ≤ o.amount := fun o ho => (amt h o ho).1
  have hmost := Ca.cross_most b.l q
  have hless := Ca.cross_less b.l q
  have hat := Ca.cross_at b.l
  rw [rights_all h] at hmost hless hat
  have part : ∀ sd x, x ∈ b.l → x.buys = sd → got (Ca.fillGo (Ca.cross b.l).2 (isort sd (Ca.sideOf sd (Ca.cross b.l).1 b.l))) x.id ≤ got (Ca.fills b.l (Ca.cross b.l).1 (Ca.cross b.l).2) x.id := fun sd x hx e => by
    have nn : ∀ s, 0 ≤ got (Ca.fillGo (Ca.cross b.l).2 (isort s (Ca.sideOf s (Ca.cross b.l).1 b.l))) x.id := fun s => by
      unfold got
      have : ∀ (F : List Fil), (∀ f ∈ F, 1 ≤ f.amount) → 0 ≤ (F.map (·.amount)).sum := fun F hF => by
        induction F with
        | nil => simp
        | cons f F ih =>
          have h1 := hF f (List.mem_cons_self ..)
          have h2 := ih fun g hg => hF g (List.mem_cons_of_mem _ hg)
          simp only [List.map_cons, List.sum_cons]; omega
      refine this _ fun f hf => ?_
      obtain ⟨o, _, _, _, h4, _⟩ := Ca.fillGo_mem _ _ (List.mem_filter.1 hf).1
      exact h4
    unfold Ca.fills
    rw [rights_all h, Ca.got_append]
    have n1 := nn true
    have n2 := nn false
    cases sd <;> omega
  have pB : ∀ x ∈ b.l, 1 ≤ Ca.bought b.l x.price ∨ x.buys = false := fun x hx => by
    cases hxb : x.buys with
    | false => exact .inr rfl
    | true =>
      left
      have h1 := Ca.tot_sub (l := [x]) (m := Ca.sideOf true x.price b.l) (List.singleton_sublist.2 (List.mem_filter.2 ⟨hx, by simp [Ca.good, hxb]⟩)) fun o ho => ha o (List.mem_filter.1 ho).1
      rw [(Ca.tot_side _ _).1] at h1
      have := ha x hx
      simp [Ca.tot] at h1
      omega
  -- of one side, all with a price at least as good as q: the sum up to one that is not whole
  have short : ∀ sd x, x ∈ b.l → Ca.good sd (Ca.cross b.l).1 x = true → got (Ca.fillGo (Ca.cross b.l).2 (isort sd (Ca.sideOf sd (Ca.cross b.l).1 b.l))) x.id < x.amount → (Ca.cross b.l).2 < Ca.tot (Ca.sideOf sd x.price b.l) := fun sd x hx hg hgot => by
    obtain ⟨k1, k2, k3⟩ := side_facts h sd (Ca.cross b.l).1
    obtain ⟨l1, l2, e, hlt⟩ := Ca.fill_short _ _ h0 (fun o ho => (k1 o ho).2.2) k2 ((Ca.isort_perm _ _).mem_iff.2 (List.mem_filter.2 ⟨hx, hg⟩)) hgot
    have hsub : Ca.tot (l1 ++ [x]) ≤ Ca.tot ((isort sd (Ca.sideOf sd (Ca.cross b.l).1 b.l)).filter (Ca.good sd x.price)) := by
      have hf : (l1 ++ [x]).filter (Ca.good sd x.price) = l1 ++ [x] := List.filter_eq_self.2 fun z hz => by
        have hz2 : z ∈ isort sd (Ca.sideOf sd (Ca.cross b.l).1 b.l) := by
          rw [e]
          rcases List.mem_append.1 hz with hz | hz
          · exact List.mem_append_left _ hz
          · rw [List.mem_singleton.1 hz]; exact List.mem_append_right _ (List.mem_cons_self ..)
        obtain ⟨_, m2, _⟩ := k1 z hz2
        have zb := (good_buys h m2).1
        have hxz : fst sd x z = false := by
          rcases List.mem_append.1 hz with hz | hz
          · rw [e] at k3
            exact (sortd_append.1 k3).2.2 z hz x (List.mem_cons_self ..)
          · rw [List.mem_singleton.1 hz]; exact (fst_swo sd).irr x
        unfold Ca.good
        rw [zb]
        unfold fst at hxz
        cases sd with
        | true =>
          simp only [beq_self_eq_true, Bool.true_and, if_pos]
          split at hxz
          · rename_i e2; rw [e2]; simp
          · rw [if_pos rfl] at hxz
            have := of_decide_eq_false hxz
            simp; omega
        | false =>
          simp only [beq_self_eq_true, Bool.true_and]
          split at hxz
          · rename_i e2; rw [e2]; simp
          · rw [if_neg (by decide)] at hxz
            have := of_decide_eq_false hxz
            simp; omega
      rw [← hf]
      refine Ca.tot_sub ?_ fun o ho => (k1 o (List.mem_filter.1 ho).1).2.2
      refine List.Sublist.filter _ ?_
      rw [e, show l1 ++ x :: l2 = (l1 ++ [x]) ++ l2 from by simp]
      exact List.sublist_append_left ..
    rw [Ca.tot_append, Ca.tot_perm ((Ca.isort_perm sd _).filter _)] at hsub
    have h5 : Ca.tot ((Ca.sideOf sd (Ca.cross b.l).1 b.l).filter (Ca.good sd x.price)) ≤ Ca.tot (Ca.sideOf sd x.price b.l) := by
      unfold Ca.sideOf
      rw [List.filter_filter]
      refine Ca.tot_filter ha fun o _ ho => ?_
      simp only [Bool.and_eq_true] at ho
      exact ho.1
    have h6 : Ca.tot [x] = x.amount := by simp [Ca.tot]
    omega
  have gu' := Int.lt_of_le_of_lt (part true u hu bu) gu
  have gv' := Int.lt_of_le_of_lt (part false v hv bv) gv
  -- the sums of both sides at q
  have bq : Ca.bought b.l u.price ≤ Ca.bought b.l q := Ca.bought_falls ha pu
  have sq : Ca.sold b.l v.price ≤ Ca.sold b.l q := Ca.sold_rises ha pv
  have b1 : 1 ≤ Ca.bought b.l u.price := by
    rcases pB u hu with hh | hh
    · exact hh
    · rw [bu] at hh; cases hh
  have s1 : v.amount ≤ Ca.sold b.l v.price := by
    have h1 := Ca.tot_sub (l := [v]) (m := Ca.sideOf false v.price b.l) (List.singleton_sublist.2 (List.mem_filter.2 ⟨hv, by simp [Ca.good, bv]⟩)) fun o ho => ha o (List.mem_filter.1 ho).1
    rw [(Ca.tot_side _ _).2] at h1
    simpa [Ca.tot] using h1
  have va := ha v hv
  unfold Ca.traded at hmost hless hat
  by_cases hn : 0 < (Ca.cross b.l).2
  · have hn' := hat hn
    by_cases hup : (Ca.cross b.l).1 ≤ u.price
    · have hs := short true u hu (by simp [Ca.good, bu, hup]) gu'
      rw [(Ca.tot_side _ _).1] at hs
      by_cases hvp : v.price ≤ (Ca.cross b.l).1
      · have hs2 := short false v hv (by simp [Ca.good, bv, hvp]) gv'
        rw [(Ca.tot_side _ _).2] at hs2
        have h7 := Ca.bought_falls ha hup
        have h8 := Ca.sold_rises ha hvp
        omega
      · have h7 := Ca.bought_falls ha hup
        have h8 := Ca.sold_rises ha (p := (Ca.cross b.l).1) (q := q) (by omega)
        -- all that is sold at the price is sold, and v above it
        have h9 : Ca.sold b.l (Ca.cross b.l).1 + v.amount ≤ Ca.sold b.l q := by
          rw [← (Ca.tot_side b.l (Ca.cross b.l).1).2, ← (Ca.tot_side b.l q).2]
          have e1 := List.singleton_sublist.2 hv
          clear hs
          have key : ∀ (l : List Ord), (∀ o ∈ l, 1 ≤ o.amount) → v ∈ l → Ca.tot (Ca.sideOf false (Ca.cross b.l).1 l) + v.amount ≤ Ca.tot (Ca.sideOf false q l) := fun l => by
            induction l with
            | nil => intro _ hh; cases hh
            | cons o l ih =>
              intro hal hvl
              have mono : Ca.tot (Ca.sideOf false (Ca.cross b.l).1 l) ≤ Ca.tot (Ca.sideOf false q l) := Ca.tot_filter (fun q hq => hal q (List.mem_cons_of_mem _ hq)) fun z _ hz => by
                unfold Ca.good at hz ⊢
                simp only [Bool.and_eq_true, beq_iff_eq, if_neg (show ¬ (false = true) from by decide), decide_eq_true_eq] at hz ⊢
                exact ⟨hz.1, by omega⟩
              have c1 : ∀ t, Ca.tot (Ca.sideOf false t (o :: l)) = (if Ca.good false t o = true then o.amount else 0) + Ca.tot (Ca.sideOf false t l) := fun t => by
                unfold Ca.sideOf
                by_cases hg : Ca.good false t o = true
                · rw [List.filter_cons_of_pos hg, if_pos hg, Ca.tot_cons]
                · rw [List.filter_cons_of_neg hg, if_neg hg]; omega
              rw [c1, c1]
              rcases List.mem_cons.1 hvl with rfl | hvl
              · rw [if_neg (by simp [Ca.good, bv]; omega), if_pos (by simp [Ca.good, bv]; omega)]; omega
              · have ihh := ih (fun q hq => hal q (List.mem_cons_of_mem _ hq)) hvl
                have oa := hal o (List.mem_cons_self ..)
                by_cases g1 : Ca.good false (Ca.cross b.l).1 o = true
                · have g2 : Ca.good false q o = true := by
                    unfold Ca.good at g1 ⊢
                    simp only [Bool.and_eq_true, beq_iff_eq, if_neg (show ¬ (false = true) from by decide), decide_eq_true_eq] at g1 ⊢
                    exact ⟨g1.1, by omega⟩
                  rw [if_pos g1, if_pos g2]; omega
                · rw [if_neg g1]
                  split <;> omega
          exact key b.l ha hv
        omega
    · have h7 := hless hn (by omega)
      have h8 := Ca.bought_falls ha (p := q) (q := (Ca.cross b.l).1) (by omega)
      have hs2 := short false v hv (by simp [Ca.good, bv]; omega) gv'
      rw [(Ca.tot_side _ _).2] at hs2
      omega
  · omega
/-- Behind a clearing nothing is traded. -/
theorem clear_again : Ca.cross b.clear.1.l = (0, 0) := by
  have hc := clear_ok h
  have hz := Ca.cross_zero b.clear.1.l
  have hB := Ca.cross_best (Ca.rights b.clear.1.l)
  rcases hz with hz | hz
  · exfalso
    have hat := Ca.cross_at b.clear.1.l hz
    rw [rights_all hc] at hat
    generalize (Ca.cross b.clear.1.l).1 = q at hat
    unfold Ca.traded at hat
    have pos : ∀ (l : List Ord), 0 < Ca.tot l → ∃ o, o ∈ l := fun l hl => by
      cases l with
      | nil => simp [Ca.tot] at hl
      | cons o l => exact ⟨o, List.mem_cons_self ..⟩
    obtain ⟨u, hu⟩ := pos (Ca.sideOf true q b.clear.1.l) (by rw [(Ca.tot_side _ _).1]; omega)
    obtain ⟨v, hv⟩ := pos (Ca.sideOf false q b.clear.1.l) (by rw [(Ca.tot_side _ _).2]; omega)
    obtain ⟨hu1, hu2⟩ := List.mem_filter.1 hu
    obtain ⟨hv1, hv2⟩ := List.mem_filter.1 hv
    obtain ⟨u1, u2, _⟩ := good_buys h hu2
    obtain ⟨v1, _, v3⟩ := good_buys h hv2
    obtain ⟨o1, ho1, e1, a1, _⟩ := after_mem h _ _ hu1
    obtain ⟨o2, ho2, e2, a2, _⟩ := after_mem h _ _ hv1
    have u2' := u2 rfl
    have v3' := v3 rfl
    rw [e1] at u1 u2' a1
    rw [e2] at v1 v3' a2
    have a1' : 1 ≤ o1.amount - got (Ca.fills b.l (Ca.cross b.l).1 (Ca.cross b.l).2) o1.id := a1
    have a2' : 1 ≤ o2.amount - got (Ca.fills b.l (Ca.cross b.l).1 (Ca.cross b.l).2) o2.id := a2
    exact none_left h ho1 ho2 u1 v1 u2' v3' (by omega) (by omega)
  · refine Prod.ext hz ?_
    rcases Int.lt_or_le 0 (Ca.cross b.clear.1.l).2 with hp | hp
    · exfalso
      have hat := Ca.cross_at b.clear.1.l hp
      rw [rights_all hc] at hat
      generalize (Ca.cross b.clear.1.l).1 = q at hat
      unfold Ca.traded at hat
      have pos : ∀ (l : List Ord), 0 < Ca.tot l → ∃ o, o ∈ l := fun l hl => by
        cases l with
        | nil => simp [Ca.tot] at hl
        | cons o l => exact ⟨o, List.mem_cons_self ..⟩
      obtain ⟨u, hu⟩ := pos (Ca.sideOf true q b.clear.1.l) (by rw [(Ca.tot_side _ _).1]; omega)
      obtain ⟨v, hv⟩ := pos (Ca.sideOf false q b.clear.1.l) (by rw [(Ca.tot_side _ _).2]; omega)
      obtain ⟨hu1, hu2⟩ := List.mem_filter.1 hu
      obtain ⟨hv1, hv2⟩ := List.mem_filter.1 hv
      obtain ⟨u1, u2, _⟩ := good_buys h hu2
      obtain ⟨v1, _, v3⟩ := good_buys h hv2
      obtain ⟨o1, ho1, e1, a1, _⟩ := after_mem h _ _ hu1
      obtain ⟨o2, ho2, e2, a2, _⟩ := after_mem h _ _ hv1
      have u2' := u2 rfl
      have v3' := v3 rfl
      rw [e1] at u1 u2' a1
      rw [e2] at v1 v3' a2
      have a1' : 1 ≤ o1.amount - got (Ca.fills b.l (Ca.cross b.l).1 (Ca.cross b.l).2) o1.id := a1
      have a2' : 1 ≤ o2.amount - got (Ca.fills b.l (Ca.cross b.l).1 (Ca.cross b.l).2) o2.id := a2
      exact none_left h ho1 ho2 u1 v1 u2' v3' (by omega) (by omega)
    · have := hB.pos
      show (Ca.crossOf (Ca.rights b.clear.1.l)).2 = 0
      have e : (Ca.cross b.clear.1.l).2 = (Ca.crossOf (Ca.rights b.clear.1.l)).2 := rfl
      omega
theorem clear_still : b.clear.1.clear = (b.clear.1, (0, 0), []) := by
  have hc := clear_ok h
  have e := clear_again h
  have hF : Ca.fills b.clear.1.l 0 0 = [] := by
    unfold Ca.fills
    rw [Ca.fillGo_none _ _ (Int.le_refl _), Ca.fillGo_none _ _ (Int.le_refl _)]; rfl
  have ha : after b.clear.1.l [] = b.clear.1.l := List.filter_eq_self.2 fun o ho => by
    have := amt hc o ho
    simp; omega
  show ((⟨after b.clear.1.l (Ca.fills b.clear.1.l (Ca.cross b.clear.1.l).1 (Ca.cross b.clear.1.l).2), b.clear.1.next⟩ : Bk), Ca.cross b.clear.1.l, Ca.fills b.clear.1.l (Ca.cross b.clear.1.l).1 (Ca.cross b.clear.1.l).2) = _
  rw [e]
  show ((⟨after b.clear.1.l (Ca.fills b.clear.1.l 0 0), b.clear.1.next⟩ : Bk), ((0 : Int), (0 : Int)), Ca.fills b.clear.1.l 0 0) = _
  rw [hF, ha]
end
end Bk
end Go.Proofs.Ytilbhnloelgpdaa
