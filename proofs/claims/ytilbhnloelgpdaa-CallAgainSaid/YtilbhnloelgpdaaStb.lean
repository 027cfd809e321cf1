/- Stable sorting, in plain: an order, what is sorted, what stands alike; there is one such list. -/
namespace Go.Proofs.Ytilbhnloelgpdaa
set_option linter.unusedVariables false
set_option linter.unusedSimpArgs false
section
variable {α : Type}
/-- A strict weak order. -/
structure Swo (lt : α → α → Bool) : Prop where
  irr : ∀ x, lt x x = false
  asym : ∀ x y, lt x y = true → lt y x = false
  neg : ∀ x y z, lt x z = true → lt x y = true ∨ lt y z = true
def Sortd (lt : α → α → Bool) (M : List α) : Prop := M.Pairwise fun x y => lt y x = false
def cls (lt : α → α → Bool) (x : α) (M : List α) : List α := M.filter fun y => !lt x y && !lt y x
/-- M' is M in an order in which none overtakes one as good. -/
structure Stab (lt : α → α → Bool) (M M' : List α) : Prop where
  alike : ∀ x, cls lt x M' = cls lt x M
  sorted : Sortd lt M'
  len : M'.length = M.length
variable {lt : α → α → Bool}
theorem Swo.le_trans (h : Swo lt) {x y z : α} (h1 : lt y x = false) (h2 : lt z y = false) : lt z x = false := by
  cases h3 : lt z x with
  | false => rfl
  | true =>
    rcases h.neg z y x h3 with h4 | h4
    · rw [h2] at h4; cases h4
    · rw [h1] at h4; cases h4
theorem Swo.lt_le (h : Swo lt) {x y z : α} (h1 : lt x y = true) (h2 : lt z y = false) : lt x z = true := by
  rcases h.neg x z y h1 with h4 | h4
  · exact h4
  · rw [h2] at h4; cases h4
theorem Swo.le_lt (h : Swo lt) {x y z : α} (h1 : lt y x = false) (h2 : lt y z = true) : lt x z = true := by
  rcases h.neg y x z h2 with h4 | h4
  · rw [h1] at h4; cases h4
  · exact h4
theorem cls_append (x : α) (M N : List α) : cls lt x (M ++ N) = cls lt x M ++ cls lt x N := by unfold cls; rw [List.filter_append]
theorem mem_cls {x y : α} {M : List α} : y ∈ cls lt x M ↔ y ∈ M ∧ lt x y = false ∧ lt y x = false := by unfold cls; simp [List.mem_filter]
theorem stab_one (h : Swo lt) : ∀ (M M' : List α), Sortd lt M → Sortd lt M' → (∀ x, cls lt x M' = cls lt x M) → M' = M
  | [], M', _, _, he => by
    cases M' with
    | nil => rfl
    | cons y t =>
      have := he y
      have hm : y ∈ cls lt y (y :: t) := mem_cls.2 ⟨List.mem_cons_self .., h.irr y, h.irr y⟩
      rw [this] at hm
      simp [cls] at hm
  | x :: s, M', hs, hs', he => by
    cases M' with
    | nil =>
      have hm : x ∈ cls lt x (x :: s) := mem_cls.2 ⟨List.mem_cons_self .., h.irr x, h.irr x⟩
      rw [← he x] at hm
      simp [cls] at hm
    | cons y t =>
      have hx : x ∈ y :: t := by
        have hm : x ∈ cls lt x (x :: s) := mem_cls.2 ⟨List.mem_cons_self .., h.irr x, h.irr x⟩
        rw [← he x] at hm
        exact (mem_cls.1 hm).1
      have hy : y ∈ x :: s := by
        have hm : y ∈ cls lt y (y :: t) := mem_cls.2 ⟨List.mem_cons_self .., h.irr y, h.irr y⟩
        rw [he y] at hm
        exact (mem_cls.1 hm).1
      have h1 : lt x y = false := by
        rcases List.mem_cons.1 hx with hx | hx
        · rw [hx]; exact h.irr y
        · exact (List.pairwise_cons.1 hs').1 x hx
      have h2 : lt y x = false := by
        rcases List.mem_cons.1 hy with hy | hy
        · rw [hy]; exact h.irr x
        · exact (List.pairwise_cons.1 hs).1 y hy
      have e := he x
      have e1 : cls lt x (x :: s) = x :: cls lt x s := by unfold cls; rw [List.filter_cons_of_pos (by simp [h.irr])]
      have e2 : cls lt x (y :: t) = y :: cls lt x t := by unfold cls; rw [List.filter_cons_of_pos (by simp [h1, h2])]
      rw [e1, e2] at e
      obtain ⟨rfl, _⟩ := List.cons.inj e
      have := stab_one h s t (List.pairwise_cons.1 hs).2 (List.pairwise_cons.1 hs').2 fun z => by
        have ez := he z
        unfold cls at ez ⊢
        rw [List.filter_cons, List.filter_cons] at ez
        split at ez
        · exact (List.cons.inj ez).2
        · exact ez
      rw [this]
theorem Stab.one (h : Swo lt) {M A B : List α} (ha : Stab lt M A) (hb : Stab lt M B) : A = B :=
  stab_one h B A hb.sorted ha.sorted fun x => by rw [ha.alike, hb.alike]
theorem Stab.refl {M : List α} (h : Sortd lt M) : Stab lt M M := ⟨fun _ => rfl, h, rfl⟩
theorem Stab.mem (h : Swo lt) {M M' : List α} (hs : Stab lt M M') (x : α) : x ∈ M' ↔ x ∈ M := by
  constructor
  · intro hx
    have : x ∈ cls lt x M' := mem_cls.2 ⟨hx, h.irr x, h.irr x⟩
    rw [hs.alike] at this
    exact (mem_cls.1 this).1
  · intro hx
    have : x ∈ cls lt x M := mem_cls.2 ⟨hx, h.irr x, h.irr x⟩
    rw [← hs.alike] at this
    exact (mem_cls.1 this).1
/-- Two lists none of whose elements are alike may change places. -/
theorem cls_swap (h : Swo lt) {M N : List α} (hmn : ∀ x ∈ M, ∀ y ∈ N, lt y x = true) (z : α) : cls lt z (N ++ M) = cls lt z (M ++ N) := by
  rw [cls_append, cls_append]
  by_cases hm : cls lt z M = []
  · rw [hm]; simp
  · by_cases hn : cls lt z N = []
    · rw [hn]; simp
    · exfalso
      obtain ⟨x, hx⟩ := List.exists_mem_of_ne_nil _ hm
      obtain ⟨y, hy⟩ := List.exists_mem_of_ne_nil _ hn
      obtain ⟨hx, x1, x2⟩ := mem_cls.1 hx
      obtain ⟨hy, y1, y2⟩ := mem_cls.1 hy
      have := hmn x hx y hy
      have h3 : lt y x = false := h.le_trans x1 y2
      rw [h3] at this
      cases this
theorem sortd_append {M N : List α} : Sortd lt (M ++ N) ↔ Sortd lt M ∧ Sortd lt N ∧ ∀ x ∈ M, ∀ y ∈ N, lt y x = false := by
  unfold Sortd; rw [List.pairwise_append]
/-- An element goes to its place in a sorted list. -/
theorem stab_insert (h : Swo lt) {S1 S2 : List α} {o : α} (hs : Sortd lt (S1 ++ S2)) (h1 : ∀ x ∈ S1, lt o x = false) (h2 : ∀ x ∈ S2, lt o x = true) : Stab lt (S1 ++ S2 ++ [o]) (S1 ++ o :: S2) := by
  obtain ⟨a1, a2, a3⟩ := sortd_append.1 hs
  refine ⟨fun z => ?_, ?_, by simp⟩
  · have e : S1 ++ o :: S2 = S1 ++ ([o] ++ S2) := rfl
    rw [e, List.append_assoc, cls_append, cls_append (M := S1), cls_swap h (M := S2) (N := [o]) fun x hx y hy => by rw [List.mem_singleton.1 hy]; exact h2 x hx]
  · refine sortd_append.2 ⟨a1, List.pairwise_cons.2 ⟨fun y hy => h.asym _ _ (h2 y hy), a2⟩, fun x hx y hy => ?_⟩
    rcases List.mem_cons.1 hy with rfl | hy
    · exact h1 x hx
    · exact a3 x hx y hy
/-- The same at the front: o goes behind all that are below it. -/
theorem stab_insert2 (h : Swo lt) {S1 S2 : List α} {o : α} (hs : Sortd lt (S1 ++ S2)) (h1 : ∀ x ∈ S1, lt x o = true) (h2 : ∀ x ∈ S2, lt x o = false) : Stab lt (o :: (S1 ++ S2)) (S1 ++ o :: S2) := by
  obtain ⟨a1, a2, a3⟩ := sortd_append.1 hs
  refine ⟨fun z => ?_, ?_, by simp <;> omega⟩
  · have e : S1 ++ o :: S2 = (S1 ++ [o]) ++ S2 := by simp
    have e2 : o :: (S1 ++ S2) = ([o] ++ S1) ++ S2 := rfl
    rw [e, e2, cls_append, cls_append (N := S2), cls_swap h (M := [o]) (N := S1) fun x hx y hy => by rw [List.mem_singleton.1 hx]; exact h1 y hy]
  · refine sortd_append.2 ⟨a1, List.pairwise_cons.2 ⟨fun y hy => h2 y hy, a2⟩, fun x hx y hy => ?_⟩
    rcases List.mem_cons.1 hy with rfl | hy
    · exact h.asym _ _ (h1 x hx)
    · exact a3 x hx y hy
theorem Stab.trans {A B C : List α} (h1 : Stab lt A B) (h2 : Stab lt B C) : Stab lt A C := ⟨fun x => (h2.alike x).trans (h1.alike x), h2.sorted, h2.len.trans h1.len⟩
theorem Stab.of_alike {A B C : List α} (h1 : ∀ x, cls lt x B = cls lt x A) (hl : B.length = A.length) (h2 : Stab lt B C) : Stab lt A C := ⟨fun x => (h2.alike x).trans (h1 x), h2.sorted, h2.len.trans hl⟩
/-- One merges two sorted lists by merging two parts of each. -/
theorem stab_merge (h : Swo lt) {U1 U2 V1 V2 L R : List α} (hu : Sortd lt (U1 ++ U2)) (hv : Sortd lt (V1 ++ V2)) (hvu : ∀ x ∈ U2, ∀ y ∈ V1, lt y x = true) (huv : ∀ x ∈ U1, ∀ y ∈ V2, lt y x = false)
    (hL : Stab lt (U1 ++ V1) L) (hR : Stab lt (U2 ++ V2) R) : Stab lt (U1 ++ U2 ++ (V1 ++ V2)) (L ++ R) := by
  obtain ⟨a1, a2, a3⟩ := sortd_append.1 hu
  obtain ⟨b1, b2, b3⟩ := sortd_append.1 hv
  refine ⟨fun z => ?_, sortd_append.2 ⟨hL.sorted, hR.sorted, fun x hx y hy => ?_⟩, ?_⟩
  · rw [cls_append, hL.alike, hR.alike, ← cls_append]
    have e : U1 ++ V1 ++ (U2 ++ V2) = U1 ++ ((V1 ++ U2) ++ V2) := by simp
    have e2 : U1 ++ U2 ++ (V1 ++ V2) = U1 ++ ((U2 ++ V1) ++ V2) := by simp
    rw [e, e2, cls_append, cls_append (N := V2), cls_append (M := U1), cls_append (N := V2), cls_swap h hvu]
  · rw [hL.mem h] at hx
    rw [hR.mem h] at hy
    rcases List.mem_append.1 hx with hx | hx <;> rcases List.mem_append.1 hy with hy | hy
    · exact a3 x hx y hy
    · exact huv x hx y hy
    · exact h.asym _ _ (hvu y hy x hx)
    · exact b3 x hx y hy
  · have := hL.len
    have := hR.len
    simp only [List.length_append] at *
    omega
end
end Go.Proofs.Ytilbhnloelgpdaa
