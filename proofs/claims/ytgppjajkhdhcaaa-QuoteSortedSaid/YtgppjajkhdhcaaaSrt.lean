/- Floats in their order, in plain Lean: sorting by insertion; any list that rises and has the same elements is that one. -/
import Derived.Test.YtgppjajkhdhcaaaMidB
namespace Go.Proofs.Ytgppjajkhdhcaaa
namespace Fl
/-- The one NaN. -/
def N1 : Nat := 9221120237041090561
theorem N1_nan : Nan N1 := by decide
theorem on_lt {x : Nat} (h : x < 18446744073709551616) : on x < 18446744073709551616 := by
  unfold on; split <;> omega
theorem on_twice (x : Nat) : on (on x) = on x := by
  by_cases h : Nan x
  · rw [on_nan h]; exact on_nan N1_nan
  · rw [on_of_not h, on_of_not h]
theorem on_nan_iff (x : Nat) : Nan (on x) ↔ Nan x := by
  by_cases h : Nan x
  · rw [on_nan h]; exact ⟨fun _ => h, fun _ => N1_nan⟩
  · rw [on_of_not h]
/-- A float that is there as it is told. -/
def Cn (b : Nat) : Prop := b < 18446744073709551616 ∧ on b = b
theorem Cn.on {x : Nat} (h : x < 18446744073709551616) : Cn (on x) := ⟨on_lt h, on_twice x⟩
theorem cn_inj {a b : Nat} (ha : Cn a) (hb : Cn b) (h : rk a = rk b) : a = b := by
  rcases (rk_same ha.1 hb.1).1 h with h | ⟨h1, h2⟩
  · exact h
  · rw [← ha.2, ← hb.2, on_nan h1, on_nan h2]
def Asc (l : List Nat) : Prop := l.Pairwise fun a b => rk a ≤ rk b
theorem asc_unique : ∀ {l m : List Nat}, l.Perm m → Asc l → Asc m → (∀ x ∈ l, Cn x) → l = m
  | [], m, h, _, _, _ => by rw [List.nil_perm.1 h]
  | x :: l, [], h, _, _, _ => by have := h.length_eq; simp at this
  | x :: l, y :: m, h, hl, hm, hc => by
    have hl' := List.pairwise_cons.1 hl
    have hm' := List.pairwise_cons.1 hm
    have hy : y ∈ x :: l := h.symm.subset (List.mem_cons_self ..)
    have hx : x ∈ y :: m := h.subset (List.mem_cons_self ..)
    have h1 : rk x ≤ rk y := by
      rcases List.mem_cons.1 hy with e | hy
      · rw [e]; exact Nat.le_refl _
      · exact hl'.1 y hy
    have h2 : rk y ≤ rk x := by
      rcases List.mem_cons.1 hx with e | hx
      · rw [e]; exact Nat.le_refl _
      · exact hm'.1 x hx
    have e : x = y := cn_inj (hc x (List.mem_cons_self ..)) (hc y hy) (by omega)
    subst e
    rw [asc_unique ((List.perm_cons x).1 h) hl'.2 hm'.2 fun z hz => hc z (List.mem_cons_of_mem _ hz)]
/-- One more, laid into its place. -/
def ins (x : Nat) : List Nat → List Nat
  | [] => [x]
  | y :: l => if rk x < rk y then x :: y :: l else y :: ins x l
theorem ins_cons (x y : Nat) (l : List Nat) : ins x (y :: l) = if rk x < rk y then x :: y :: l else y :: ins x l := rfl
theorem ins_perm (x : Nat) : ∀ l : List Nat, (ins x l).Perm (x :: l)
  | [] => .refl _
  | y :: l => by
    unfold ins
    split
    · exact .refl _
    · exact ((ins_perm x l).cons y).trans (.swap x y l)
theorem ins_asc (x : Nat) : ∀ {l : List Nat}, Asc l → Asc (ins x l)
  | [], _ => by unfold ins Asc; simp
  | y :: l, h => by
    have h' := List.pairwise_cons.1 h
    unfold ins
    split
    · rename_i hlt
      refine List.pairwise_cons.2 ⟨fun z hz => ?_, h⟩
      rcases List.mem_cons.1 hz with rfl | hz
      · omega
      · have := h'.1 z hz; omega
    · rename_i hlt
      refine List.pairwise_cons.2 ⟨fun z hz => ?_, ins_asc x h'.2⟩
      rcases List.mem_cons.1 ((ins_perm x l).subset hz) with rfl | hz
      · omega
      · exact h'.1 z hz
theorem ins_length (x : Nat) (l : List Nat) : (ins x l).length = l.length + 1 := (ins_perm x l).length_eq
/-- Floats in their order. -/
def srt (l : List Nat) : List Nat := l.foldl (fun o x => ins (on x) o) []
theorem srt_snoc (l : List Nat) (x : Nat) : srt (l ++ [x]) = ins (on x) (srt l) := by
  unfold srt; rw [List.foldl_append]; rfl
theorem foldl_perm : ∀ (l o : List Nat), (l.foldl (fun o x => ins (on x) o) o).Perm (l.map on ++ o)
  | [], o => .refl _
  | x :: l, o => by
    rw [List.foldl_cons, List.map_cons, List.cons_append]
    exact (foldl_perm l _).trans ((List.Perm.append_left _ (ins_perm (on x) o)).trans List.perm_middle)
theorem srt_perm (l : List Nat) : (srt l).Perm (l.map on) := by
  have := foldl_perm l []
  rwa [List.append_nil] at this
theorem foldl_asc : ∀ (l o : List Nat), Asc o → Asc (l.foldl (fun o x => ins (on x) o) o)
  | [], _, h => h
  | x :: l, o, h => by rw [List.foldl_cons]; exact foldl_asc l _ (ins_asc (on x) h)
theorem srt_asc (l : List Nat) : Asc (srt l) := foldl_asc l [] List.Pairwise.nil
theorem srt_length (l : List Nat) : (srt l).length = l.length := by rw [(srt_perm l).length_eq, List.length_map]
theorem srt_cn {l : List Nat} (h : ∀ x ∈ l, x < 18446744073709551616) : ∀ x ∈ srt l, Cn x := fun x hx => by
  obtain ⟨y, hy, rfl⟩ := List.mem_map.1 ((srt_perm l).subset hx)
  exact Cn.on (h y hy)
/-- What any sound sort makes of them. -/
theorem srt_of {l m : List Nat} (h : ∀ x ∈ l, x < 18446744073709551616) (hp : m.Perm (l.map on)) (ha : Asc m) : m = srt l :=
  (asc_unique ((srt_perm l).trans hp.symm) (srt_asc l) ha (srt_cn h)).symm
theorem srt_of_perm {l m : List Nat} (h : ∀ x ∈ l, x < 18446744073709551616) (hp : m.Perm l) : srt m = srt l :=
  srt_of h ((srt_perm m).trans (hp.map on)) (srt_asc m)
/-- Those that are numbers. -/
def nums (l : List Nat) : List Nat := l.filter fun x => !decide (Nan x)
theorem nums_mem {l : List Nat} {x : Nat} : x ∈ nums l ↔ x ∈ l ∧ ¬ Nan x := by unfold nums; simp
theorem nums_length (l : List Nat) : (nums l).length ≤ l.length := List.length_filter_le _ _
theorem nums_perm : ∀ l : List Nat, (l.map on).Perm ((nums l).map on ++ List.replicate (l.length - (nums l).length) N1)
  | [] => by simp [nums]
  | x :: l => by
    have ih := nums_perm l
    have hl := nums_length l
    by_cases h : Nan x
    · have e : nums (x :: l) = nums l := by unfold nums; rw [List.filter_cons_of_neg (by simp [h])]
      rw [e, List.map_cons, on_nan h, List.length_cons, show l.length + 1 - (nums l).length = (l.length - (nums l).length) + 1 from by omega, List.replicate_succ]
      exact (ih.cons _).trans List.perm_middle.symm
    · have e : nums (x :: l) = x :: nums l := by unfold nums; rw [List.filter_cons_of_pos (by simp [h])]
      rw [e, List.map_cons, List.map_cons, List.length_cons, List.length_cons, show l.length + 1 - ((nums l).length + 1) = l.length - (nums l).length from by omega, List.cons_append]
      exact ih.cons _
theorem rk_max {b : Nat} (h : b < 18446744073709551616) : rk b ≤ rk N1 := by
  have e : rk N1 = 18446744073709551615 := rk_nan N1_nan
  rw [e]
  rcases rk_lt (b := b) with h1 | h1 <;> omega
/-- All floats in their order: the numbers, and behind them what is none. -/
theorem srt_split {l : List Nat} (h : ∀ x ∈ l, x < 18446744073709551616) : srt l = srt (nums l) ++ List.replicate (l.length - (nums l).length) N1 := by
  have hn : ∀ x ∈ nums l, x < 18446744073709551616 := fun x hx => h x (nums_mem.1 hx).1
  refine (srt_of h (((srt_perm (nums l)).append_right _).trans (nums_perm l).symm) ?_).symm
  refine List.pairwise_append.2 ⟨srt_asc _, ?_, fun a ha b hb => ?_⟩
  · exact List.pairwise_replicate.2 (.inr (Nat.le_refl _))
  · rw [(List.mem_replicate.1 hb).2]
    exact rk_max (srt_cn hn a ha).1
theorem srt_nums_not {l : List Nat} : ∀ x ∈ srt (nums l), ¬ Nan x := fun x hx => by
  obtain ⟨y, hy, rfl⟩ := List.mem_map.1 ((srt_perm _).subset hx)
  rw [on_nan_iff]
  exact (nums_mem.1 hy).2
/-- The one in the middle. -/
def med (s : List Nat) : Nat := if s.length = 0 then N1 else if s.length % 2 = 1 then s.getD (s.length / 2) 0 else md (s.getD (s.length / 2 - 1) 0) (s.getD (s.length / 2) 0)
/-- Insertion as the reference does it: element by element, with a word on whether x was laid. -/
def lay1 (x : Nat) (p : Bool × List Nat) (y : Nat) : Bool × List Nat := if !p.1 && decide (rk x < rk y) then (true, p.2 ++ [x] ++ [y]) else (p.1, p.2 ++ [y])
def layn (x : Nat) (l : List Nat) : Bool × List Nat := l.foldl (lay1 x) (false, [])
theorem layn_snoc (x : Nat) (l : List Nat) (y : Nat) : layn x (l ++ [y]) = lay1 x (layn x l) y := by
  unfold layn; rw [List.foldl_append]; rfl
theorem lay_true (x : Nat) : ∀ (l acc : List Nat), l.foldl (lay1 x) (true, acc) = (true, acc ++ l)
  | [], acc => by simp
  | y :: l, acc => by
    rw [List.foldl_cons]
    have : lay1 x (true, acc) y = (true, acc ++ [y]) := rfl
    rw [this, lay_true x l, List.append_assoc]; rfl
theorem lay_false (x : Nat) : ∀ (l acc : List Nat), (if (l.foldl (lay1 x) (false, acc)).1 then (l.foldl (lay1 x) (false, acc)).2 else (l.foldl (lay1 x) (false, acc)).2 ++ [x]) = acc ++ ins x l
  | [], acc => by simp [ins]
  | y :: l, acc => by
    rw [List.foldl_cons]
    by_cases h : rk x < rk y
    · have : lay1 x (false, acc) y = (true, acc ++ [x] ++ [y]) := by unfold lay1; simp [h]
      rw [this, lay_true, ins_cons, if_pos h]
      simp
    · have : lay1 x (false, acc) y = (false, acc ++ [y]) := by unfold lay1; simp [h]
      rw [this, lay_false x l, ins_cons, if_neg h]
      simp
theorem layn_ins (x : Nat) (l : List Nat) : (if (layn x l).1 then (layn x l).2 else (layn x l).2 ++ [x]) = ins x l := by
  have := lay_false x l []
  rwa [List.nil_append] at this
theorem layn_length (x : Nat) (l : List Nat) : (layn x l).2.length = l.length + (if (layn x l).1 then 1 else 0) := by
  have h := congrArg List.length (layn_ins x l)
  rw [ins_length] at h
  split at h <;> rename_i hc
  · rw [hc]; simpa using h
  · simp only [List.length_append, List.length_singleton] at h
    rw [if_neg hc]; omega
end Fl
end Go.Proofs.Ytgppjajkhdhcaaa
