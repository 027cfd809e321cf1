/- The walk of QuoteBetween: where halves are exact the middle lies between the two. -/
import Derived.Test.YtpdkjjhcpaoioaaMid
namespace Go.Proofs.Ytpdkjjhcpaoioaa
open Go.RowKit
namespace Fl
theorem hf_exact {x : Nat} (h : Fin x) (hc : 9007199254740992 ≤ rg x) : Fin (hf x) ∧ sv (hf x) * 2 = sv x := by
  have e : pw 1 = 4611686018427387904 := by decide
  have hd := div_pw (k := 1) h (by omega)
  rw [e] at hd
  rcases rung_form (rg x) with g | ⟨d, k, h1, h2, hr⟩
  · omega
  obtain ⟨d', rfl⟩ : ∃ d', d = d' + 1 := ⟨d - 1, by omega⟩
  have hu : un (rg x) = k * 2 ^ d' * 2 ^ 1 := by rw [hr, un_high h1 (by omega), Nat.pow_succ, Nat.mul_assoc]
  rw [hu, nearest_scale, show (-1074 - ((1 : Nat) : Int) + ((1 : Nat) : Int)) = -1074 from by omega] at hd
  have hh : hf x = Ieee.double.nearest (ng x) (k * 2 ^ d') (-1074) := by
    unfold hf
    have : floatBits .quo .f64 x 4611686018427387904 = some (Ieee.double.nearest (ng x) (k * 2 ^ d') (-1074)) := hd
    rw [this]; rfl
  have hlt : k * 2 ^ d' < 2 ^ (52 + X) := by
    have hX := X_eq
    have hdx : d' + 1 + 53 ≤ 52 + X := by unfold Fin at h; omega
    have : k * 2 ^ d' < 2 ^ 53 * 2 ^ d' := Nat.mul_lt_mul_of_pos_right (by omega) (Nat.two_pow_pos _)
    rw [← Nat.pow_add] at this
    exact Nat.lt_of_lt_of_le this (Nat.pow_le_pow_right (by omega) (by omega))
  obtain ⟨hf1, hn, hu2, _⟩ := near_rep (s := ng x) (rep_small h2 d') hlt
  rw [← hh] at hf1 hn hu2
  refine ⟨hf1, ?_⟩
  rw [sv_of hn hu2]; unfold sv; rw [hu]
  generalize k * 2 ^ d' = a
  unfold sg; cases ng x <;> simp <;> omega
theorem un_zero : un 0 = 0 := un_low (by omega)
theorem un_pos {r : Nat} (h : un r = 0) : r = 0 := un_inj (h.trans un_zero.symm)
theorem cap_zero : cap 0 = 0 := by unfold cap; omega
theorem nr_not_nan (T : Int) (z : Bool) : ¬ Nan (nr T z) := by
  have hc := cap_lt (ru T.natAbs)
  unfold nr Nan; rw [rg_word _ hc]; unfold cap; omega
theorem sr_nr (T : Int) (z : Bool) : (0 ≤ T ∧ sr (nr T z) = (cap (ru T.natAbs) : Int)) ∨ (T < 0 ∧ sr (nr T z) = -(cap (ru T.natAbs) : Int)) := by
  have hc := cap_lt (ru T.natAbs)
  unfold nr sr
  rw [ng_word _ hc, rg_word _ hc]
  unfold sg
  by_cases hT : T = 0
  · left
    subst hT
    rw [show (0 : Int).natAbs = 0 from rfl, ru_zero, cap_zero]
    refine ⟨by omega, ?_⟩
    rw [if_pos rfl]
    cases z
    · rw [if_neg (by decide)]
    · rw [if_pos rfl]; rfl
  · rw [if_neg hT]
    by_cases hneg : T < 0
    · right; rw [decide_eq_true hneg, if_pos rfl]; exact ⟨hneg, rfl⟩
    · left; rw [decide_eq_false hneg, if_neg (by decide)]; exact ⟨by omega, rfl⟩
theorem cap_ge {r n : Nat} (h : r < 9218868437227405312) (h2 : r ≤ n) : r ≤ cap n := by unfold cap; omega
theorem cap_le {r n : Nat} (h2 : n ≤ r) : cap n ≤ r := by unfold cap; omega
/-- The rounded word of units between two others lies between them. -/
theorem nr_ge {lo : Nat} {T : Int} (z : Bool) (hlo : Fin lo) (h : sv lo ≤ T) : sr lo ≤ sr (nr T z) := by
  unfold Fin at hlo
  unfold sv sg at h
  have e : sr lo = if ng lo = true then -(rg lo : Int) else (rg lo : Int) := rfl
  rw [e]
  by_cases hn : ng lo = true
  · rw [if_pos hn] at h ⊢
    rcases sr_nr T z with ⟨h1, h2⟩ | ⟨h1, h2⟩
    · rw [h2]; omega
    · rw [h2]
      have h3 := ru_mono (show T.natAbs ≤ un (rg lo) from by omega)
      rw [ru_un] at h3
      have h4 := cap_le h3
      omega
  · rw [if_neg hn] at h ⊢
    rcases sr_nr T z with ⟨h1, h2⟩ | ⟨h1, h2⟩
    · rw [h2]
      have h3 := ru_mono (show un (rg lo) ≤ T.natAbs from by omega)
      rw [ru_un] at h3
      have h4 := cap_ge hlo h3
      omega
    · omega
theorem nr_le {hi : Nat} {T : Int} (z : Bool) (hhi : Fin hi) (h : T ≤ sv hi) : sr (nr T z) ≤ sr hi := by
  unfold Fin at hhi
  unfold sv sg at h
  have e : sr hi = if ng hi = true then -(rg hi : Int) else (rg hi : Int) := rfl
  rw [e]
  by_cases hn : ng hi = true
  · rw [if_pos hn] at h ⊢
    rcases sr_nr T z with ⟨h1, h2⟩ | ⟨h1, h2⟩
    · have h0 : rg hi = 0 := un_pos (by omega)
      have hT : T = 0 := by rw [h0, un_zero] at h; omega
      rw [h2, h0, hT]
      rw [show (0 : Int).natAbs = 0 from rfl, ru_zero, cap_zero]; omega
    · rw [h2]
      have h3 := ru_mono (show un (rg hi) ≤ T.natAbs from by omega)
      rw [ru_un] at h3
      have h4 := cap_ge hhi h3
      omega
  · rw [if_neg hn] at h ⊢
    rcases sr_nr T z with ⟨h1, h2⟩ | ⟨h1, h2⟩
    · rw [h2]
      have h3 := ru_mono (show T.natAbs ≤ un (rg hi) from by omega)
      rw [ru_un] at h3
      have h4 := cap_le h3
      omega
    · rw [h2]; omega
theorem sv_le {x y : Nat} : sv x ≤ sv y ↔ sr x ≤ sr y := by
  have := sv_lt (x := y) (y := x); omega
theorem order_geb (x y : Nat) : (FloatKind.f64.format.order x y == some .gt || FloatKind.f64.format.order x y == some .eq) = decide (¬ Nan x ∧ ¬ Nan y ∧ sr y ≤ sr x) := by
  rw [order_gt, order_eqb, Bool.eq_iff_iff, Bool.or_eq_true, decide_eq_true_eq, decide_eq_true_eq, decide_eq_true_eq]
  constructor
  · rintro (⟨h1, h2, h3⟩ | ⟨h1, h2, h3⟩) <;> exact ⟨h1, h2, by omega⟩
  · rintro ⟨h1, h2, h3⟩
    by_cases h : sr y < sr x
    · exact .inl ⟨h1, h2, h⟩
    · exact .inr ⟨h1, h2, by omega⟩
theorem order_leb (x y : Nat) : (FloatKind.f64.format.order x y == some .lt || FloatKind.f64.format.order x y == some .eq) = decide (¬ Nan x ∧ ¬ Nan y ∧ sr x ≤ sr y) := by
  rw [order_lt, order_eqb, Bool.eq_iff_iff, Bool.or_eq_true, decide_eq_true_eq, decide_eq_true_eq, decide_eq_true_eq]
  constructor
  · rintro (⟨h1, h2, h3⟩ | ⟨h1, h2, h3⟩) <;> exact ⟨h1, h2, by omega⟩
  · rintro ⟨h1, h2, h3⟩
    by_cases h : sr x < sr y
    · exact .inl ⟨h1, h2, h⟩
    · exact .inr ⟨h1, h2, by omega⟩
/-- The middle of two that are far enough from 0. -/
theorem md_between {a b : Nat} (ha : Fin a) (hb : Fin b) (ca : 9007199254740992 ≤ rg a) (cb : 9007199254740992 ≤ rg b) (lo hi : Nat)
    (hlo : Fin lo) (hhi : Fin hi) (h1 : sr lo ≤ sr a) (h2 : sr lo ≤ sr b) (h3 : sr a ≤ sr hi) (h4 : sr b ≤ sr hi) :
    ¬ Nan (md a b) ∧ sr lo ≤ sr (md a b) ∧ sr (md a b) ≤ sr hi := by
  obtain ⟨fa, ea⟩ := hf_exact ha ca
  obtain ⟨fb', eb⟩ := hf_exact hb cb
  have hs := add_fin fa fb'
  have hm : md a b = nr (sv (hf a) + sv (hf b)) (ng (hf a) && ng (hf b)) := by
    unfold md; rw [if_neg (not_nan_of_fin ha), if_neg (not_nan_of_fin hb)]
    unfold fo
    have : floatBits .add .f64 (hf a) (hf b) = some (nr (sv (hf a) + sv (hf b)) (ng (hf a) && ng (hf b))) := hs
    rw [this]; rfl
  rw [← sv_le] at h1 h2 h3 h4
  rw [hm]
  have e1 : sv lo ≤ sv (hf a) + sv (hf b) := by omega
  have e2 : sv (hf a) + sv (hf b) ≤ sv hi := by omega
  clear hm hs ea eb h1 h2 h3 h4 ca cb
  exact ⟨nr_not_nan _ _, nr_ge _ hlo e1, nr_le _ hhi e2⟩
/-- Not near 0: by the two tests of the law. -/
theorem far_of {x : Nat} (h : ¬ (sr x < 118622047889322841 ∧ -118622047889322841 < sr x)) : 9007199254740992 ≤ rg x := by
  unfold sr sg at h; cases hn : ng x <;> rw [hn] at h <;> simp only [Bool.false_eq_true, if_true, if_false] at h <;> omega
end Fl

theorem sub_self_run (x : Nat) : (Fl.Fin x ∧ ∃ z, (∀ w, (binOp .sub 22 (.float .f64 x) (.float .f64 x)).run Try.prog w = .ok (.float .f64 z) w) ∧ decide (Fl.Nan z) = false) ∨
    (¬ Fl.Fin x ∧ ∃ g : World → Nat, (∀ w, (binOp .sub 22 (.float .f64 x) (.float .f64 x)).run Try.prog w = .ok (.float .f64 (g w)) w.drew) ∧ ∀ w, decide (Fl.Nan (g w)) = true) := by
  by_cases h : Fl.Fin x
  · have hs := Fl.sub_fin h h
    have hs' : floatBits .sub .f64 x x = some (Fl.nr (Fl.sv x - Fl.sv x) (Fl.ng x && !Fl.ng x)) := hs
    exact .inl ⟨h, _, fun w => run_float_arith (P := Try.prog) w .sub 22 .f64 _ _ _ hs', decide_eq_false (Fl.fb_not_nan hs')⟩
  · right
    refine ⟨h, ?_⟩
    have hn : floatBits .sub .f64 x x = none := by
      show Ieee.double.sub x x = none
      unfold Ieee.Format.sub
      rcases Fl.kinds x with hx | hx | hx
      · exact absurd hx h
      · rw [Fl.read_inf hx]; cases Fl.ng x <;> rfl
      · rw [Fl.read_nan hx]; rfl
    rcases float_any .sub (Or.inr (Or.inl rfl)) 22 x x with ⟨r, hr⟩ | ⟨_, g, hgn, hg⟩
    · rw [hn] at hr; cases hr
    · exact ⟨g, hg, fun w => decide_eq_true (hgn w).1⟩

theorem far_tests {x : Nat} (h : Fl.Fin x) : ((FloatKind.f64.format.order x 118622047889322841 == some .lt) = true ∧ (FloatKind.f64.format.order x 9341994084744098649 == some .gt) = true) ∨
    (9007199254740992 ≤ Fl.rg x ∧ ((FloatKind.f64.format.order x 118622047889322841 == some .lt) = false ∨ (FloatKind.f64.format.order x 118622047889322841 == some .lt) = true ∧ (FloatKind.f64.format.order x 9341994084744098649 == some .gt) = false)) := by
  have hn := Fl.not_nan_of_fin h
  have n1 : ¬ Fl.Nan 118622047889322841 := by decide
  have n2 : ¬ Fl.Nan 9341994084744098649 := by decide
  have s1 : Fl.sr 118622047889322841 = 118622047889322841 := by decide
  have s2 : Fl.sr 9341994084744098649 = -118622047889322841 := by decide
  rw [Fl.order_lt, Fl.order_gt, s1, s2]
  simp only [hn, n1, n2, not_false_eq_true, true_and, decide_eq_true_eq, decide_eq_false_iff_not]
  by_cases c1 : Fl.sr x < 118622047889322841 <;> by_cases c2 : -118622047889322841 < Fl.sr x
  · exact .inl ⟨c1, c2⟩
  · exact .inr ⟨Fl.far_of (fun g => c2 g.2), .inr ⟨c1, c2⟩⟩
  · exact .inr ⟨Fl.far_of (fun g => c1 g.1), .inl c1⟩
  · exact .inr ⟨Fl.far_of (fun g => c1 g.1), .inl c1⟩

/-- What the law asks of the middle, by the tests that it makes. -/
theorem QuoteBetween_fin (a b lo hi : Nat) (ha : Fl.Fin a) (hb : Fl.Fin b) (hl : (FloatKind.f64.format.order a b == some .gt) = true ∧ lo = b ∧ hi = a ∨ (FloatKind.f64.format.order a b == some .gt) = false ∧ lo = a ∧ hi = b) (v : Nat) (hv : Hid (Fl.md a b = v)) :
    ((FloatKind.f64.format.order hi 118622047889322841 == some .lt) = true ∧ (FloatKind.f64.format.order hi 9341994084744098649 == some .gt) = true) ∨
    (((FloatKind.f64.format.order hi 118622047889322841 == some .lt) = false ∨ (FloatKind.f64.format.order hi 118622047889322841 == some .lt) = true ∧ (FloatKind.f64.format.order hi 9341994084744098649 == some .gt) = false) ∧
      (((FloatKind.f64.format.order lo 118622047889322841 == some .lt) = true ∧ (FloatKind.f64.format.order lo 9341994084744098649 == some .gt) = true) ∨
       (((FloatKind.f64.format.order lo 118622047889322841 == some .lt) = false ∨ (FloatKind.f64.format.order lo 118622047889322841 == some .lt) = true ∧ (FloatKind.f64.format.order lo 9341994084744098649 == some .gt) = false) ∧
        (FloatKind.f64.format.order v lo == some .gt || FloatKind.f64.format.order v lo == some .eq) = true ∧ (FloatKind.f64.format.order v hi == some .lt || FloatKind.f64.format.order v hi == some .eq) = true))) := by
  have hord : Fl.sr lo ≤ Fl.sr a ∧ Fl.sr lo ≤ Fl.sr b ∧ Fl.sr a ≤ Fl.sr hi ∧ Fl.sr b ≤ Fl.sr hi ∧ Fl.Fin lo ∧ Fl.Fin hi := by
    rw [Fl.order_gt] at hl
    rcases hl with ⟨h, rfl, rfl⟩ | ⟨h, rfl, rfl⟩
    · have := of_decide_eq_true h; exact ⟨by omega, by omega, by omega, by omega, hb, ha⟩
    · have := of_decide_eq_false h
      have h2 : ¬ Fl.sr hi < Fl.sr lo := fun g => this ⟨Fl.not_nan_of_fin ha, Fl.not_nan_of_fin hb, g⟩
      exact ⟨by omega, by omega, by omega, by omega, ha, hb⟩
  obtain ⟨o1, o2, o3, o4, flo, fhi⟩ := hord
  rcases far_tests fhi with h1 | ⟨ch, h1⟩
  · exact .inl h1
  right
  refine ⟨h1, ?_⟩
  rcases far_tests flo with h2 | ⟨cl, h2⟩
  · exact .inl h2
  right
  have hab : 9007199254740992 ≤ Fl.rg a ∧ 9007199254740992 ≤ Fl.rg b := by
    rcases hl with ⟨_, rfl, rfl⟩ | ⟨_, rfl, rfl⟩
    · exact ⟨ch, cl⟩
    · exact ⟨cl, ch⟩
  obtain ⟨m0, m1, m2⟩ := Fl.md_between ha hb hab.1 hab.2 lo hi flo fhi o1 o2 o3 o4
  rw [hv.out] at m0 m1 m2
  refine ⟨h2, ?_, ?_⟩
  · rw [Fl.order_geb]; exact decide_eq_true ⟨m0, Fl.not_nan_of_fin flo, m1⟩
  · rw [Fl.order_leb]; exact decide_eq_true ⟨m0, Fl.not_nan_of_fin fhi, m2⟩

set_option maxHeartbeats 4000000 in
theorem QuoteBetween_walk (a : Nat) (_ha : (Lit.float .f64 a).wf = true) (b : Nat) (_hb : (Lit.float .f64 b).wf = true) (w : World) :
    Calls Try.prog 7 #[.float .f64 a, .float .f64 b] w fun e w' => e = .returned (.bool true) ∧ Below w.heap.size w w' := by
  obtain ⟨v, hv⟩ : ∃ v, Hid (Fl.md a b = v) := ⟨_, rfl⟩
  rcases sub_self_run a with ⟨fa, za, hza, nza⟩ | ⟨_, g, hg, hgn⟩
  · have ZA := Lib.hid nza
    clear nza
    rcases sub_self_run b with ⟨fb, zb, hzb, nzb⟩ | ⟨_, g, hg, hgn⟩
    · have ZB := Lib.hid nzb
      clear nzb
      obtain ⟨t, ht⟩ : ∃ t, (FloatKind.f64.format.order a b == some .gt) = t := ⟨_, rfl⟩
      cases t
      · have hcs := QuoteBetween_fin a b a b fa fb (.inr ⟨ht, rfl, rfl⟩) v hv
        clear fa fb
        rcases hcs with ⟨h1, h2⟩ | ⟨h1 | ⟨h1, h2⟩, ⟨h3, h4⟩ | ⟨h3 | ⟨h3, h4⟩, h5, h6⟩⟩
        all_goals
          go_enter Try.func7, Try.ntmps7
          go_wp2_with (first
            | (go_at_call 23; (with_reducible refine (mid_calls _ _ _ _ hv).mono ?_); rintro e w' ⟨rfl, n1, rfl⟩)
            | (go_at_call 21; first | ((with_reducible refine (none_calls za _ _ ZA.out).mono ?_); rintro e w' ⟨rfl, rfl⟩) | ((with_reducible refine (none_calls zb _ _ ZB.out).mono ?_); rintro e w' ⟨rfl, rfl⟩))
            | (go_at_call 15; (with_reducible refine (awake_calls _).mono ?_); rintro e w' ⟨rfl, n4, rfl⟩))
          go_ret
          exact ⟨rfl, below_drewN _ _⟩
      · have hcs := QuoteBetween_fin a b b a fa fb (.inl ⟨ht, rfl, rfl⟩) v hv
        clear fa fb
        rcases hcs with ⟨h1, h2⟩ | ⟨h1 | ⟨h1, h2⟩, ⟨h3, h4⟩ | ⟨h3 | ⟨h3, h4⟩, h5, h6⟩⟩
        all_goals
          go_enter Try.func7, Try.ntmps7
          go_wp2_with (first
            | (go_at_call 23; (with_reducible refine (mid_calls _ _ _ _ hv).mono ?_); rintro e w' ⟨rfl, n1, rfl⟩)
            | (go_at_call 21; first | ((with_reducible refine (none_calls za _ _ ZA.out).mono ?_); rintro e w' ⟨rfl, rfl⟩) | ((with_reducible refine (none_calls zb _ _ ZB.out).mono ?_); rintro e w' ⟨rfl, rfl⟩))
            | (go_at_call 15; (with_reducible refine (awake_calls _).mono ?_); rintro e w' ⟨rfl, n4, rfl⟩))
          go_ret
          exact ⟨rfl, below_drewN _ _⟩
    · have GB := fun w => Lib.hid (hgn w)
      clear hgn fa
      go_enter Try.func7, Try.ntmps7
      go_wp2_with (first
        | (go_at_call 23; (with_reducible refine (mid_calls _ _ _ _ hv).mono ?_); rintro e w' ⟨rfl, n1, rfl⟩)
        | (go_at_call 21; first | ((with_reducible refine (none_calls za _ _ ZA.out).mono ?_); rintro e w' ⟨rfl, rfl⟩) | ((with_reducible refine (none_calls _ _ _ (GB _).out).mono ?_); rintro e w' ⟨rfl, rfl⟩))
        | (go_at_call 15; (with_reducible refine (awake_calls _).mono ?_); rintro e w' ⟨rfl, n4, rfl⟩))
      go_ret
      exact ⟨rfl, below_drewN _ _⟩
  · have GA := fun w => Lib.hid (hgn w)
    clear hgn
    go_enter Try.func7, Try.ntmps7
    go_wp2_with (first
      | (go_at_call 23; (with_reducible refine (mid_calls _ _ _ _ hv).mono ?_); rintro e w' ⟨rfl, n1, rfl⟩)
      | (go_at_call 21; (with_reducible refine (none_calls _ _ _ (GA _).out).mono ?_); rintro e w' ⟨rfl, rfl⟩)
      | (go_at_call 15; (with_reducible refine (awake_calls _).mono ?_); rintro e w' ⟨rfl, n4, rfl⟩))
    go_ret
    exact ⟨rfl, below_drewN _ _⟩
end Go.Proofs.Ytpdkjjhcpaoioaa
