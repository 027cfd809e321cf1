/- slices.SortStableFunc at orders of one side. -/
import Derived.Test.YtilbhnloelgpdaaSBlk
namespace Go.Proofs.Ytilbhnloelgpdaa
open Go.RowKit
set_option linter.unusedVariables false
set_option linter.unusedSimpArgs false
theorem mem_seg {F : List Ord} {p q : Nat} {x : Ord} (h : x ∈ seg F p q) : x ∈ F := List.mem_of_mem_take (List.mem_of_mem_drop h)
theorem keep_buys {sd : Bool} {F X Y P R : List Ord} (hF : ∀ o ∈ F, o.buys = sd) (hX : Stab (fst sd) Y X) (hY : ∀ o ∈ Y, o ∈ F) (hP : ∀ o ∈ P, o ∈ F) (hR : ∀ o ∈ R, o ∈ F) : ∀ o ∈ P ++ (X ++ R), o.buys = sd := by
  intro o ho
  rcases List.mem_append.1 ho with ho | ho
  · exact hF o (hP o ho)
  · rcases List.mem_append.1 ho with ho | ho
    · exact hF o (hY o ((hX.mem (fst_swo sd) o).1 ho))
    · exact hF o (hR o ho)
theorem w_mul2 {a c : Nat} (h : 2 * a = c) (hc : c ≤ 100000) : IntKind.i64.wrap (2 * (a : Int)) = (c : Int) ∧ IntKind.i64.wrap ((a : Int) * 2) = (c : Int) := ⟨by rw [IntKind.wrap_i64]; omega, by rw [IntKind.wrap_i64]; omega⟩
theorem ins_part {w0 w : World} {A : Option Addr} {m c : Nat} {F : List Ord} {sd : Bool} (h : Sw w0 w A m c F) (hm : m ≤ 64) (hF : ∀ o ∈ F, o.buys = sd) {a b : Nat} (hab : a ≤ b) (hbm : b ≤ m) :
    Calls Try.prog 71 #[.slice A m c, .int .i64 (a : Int), .int .i64 (b : Int), .func (.func 39) #[] #[]] w fun e w' => e = .returned (.tuple #[]) ∧ ∃ X, Stab (fst sd) (seg F a b) X ∧ Sw w0 w' A m c (F.take a ++ (X ++ F.drop b)) := by
  have hl := h.len
  exact insert_calls w0 w A m c (F.take a) (seg F a b) (F.drop b) sd (by rw [seg_whole F hab]; exact h) hm (fun o ho => hF o (mem_seg ho)) a b (by rw [List.length_take]; omega) (by rw [seg_length (by omega)]; omega)
theorem sym_part {w0 w : World} {A : Option Addr} {m c : Nat} {F : List Ord} {sd : Bool} (h : Sw w0 w A m c F) (hm : m ≤ 64) (hF : ∀ o ∈ F, o.buys = sd) {a k b : Nat} (hak : a < k) (hkb : k < b) (hbm : b ≤ m) (hU : Sortd (fst sd) (seg F a k)) (hV : Sortd (fst sd) (seg F k b)) :
    Calls Try.prog 72 #[.slice A m c, .int .i64 (a : Int), .int .i64 (k : Int), .int .i64 (b : Int), .func (.func 39) #[] #[]] w fun e w' => e = .returned (.tuple #[]) ∧ ∃ X, Stab (fst sd) (seg F a k ++ seg F k b) X ∧ Sw w0 w' A m c (F.take a ++ (X ++ F.drop b)) := by
  have hl := h.len
  refine sym_all w0 A m c hm sd _ (F.take a) (seg F a k) (seg F k b) (F.drop b) (Nat.le_refl _) ⟨fun o ho => ?_, hU, hV, by rw [seg_length (by omega)]; omega, by rw [seg_length (by omega)]; omega⟩ w a k b ?_ (by rw [List.length_take]; omega) (by rw [seg_length (by omega)]; omega) (by rw [seg_length (by omega)]; omega)
  · rcases List.mem_append.1 ho with ho | ho <;> exact hF o (mem_seg ho)
  · rw [← List.append_assoc (seg F a k), ← seg_split F (by omega) (by omega), seg_whole F (by omega)]; exact h
set_option maxHeartbeats 8000000 in
set_option maxRecDepth 100000 in
theorem stable_calls (w0 w : World) (A : Option Addr) (m c : Nat) (S : List Ord) (sd : Bool) (h : Sw w0 w A m c S) (hm : m ≤ 64) (hS : ∀ o ∈ S, o.buys = sd) :
    Calls Try.prog 59 #[.slice A m c, .int .i64 (m : Int), .func (.func 39) #[] #[]] w fun e w' => e = .returned (.tuple #[]) ∧ ∃ F, Stab (fst sd) S F ∧ Sw w0 w' A m c F := by
  have H := Lib.hid h
  have HS := Lib.hid hS
  have hSl := Lib.hid h.len
  clear h hS
  go_enter Try.func59, Try.ntmps59
  go_upto_region 2 with (fail)
  go_loopg [7, 8] 5 (fun gk s7 s8 wr => ∃ (t a b : Nat) (F : List Ord), gk = 5 - t ∧ s7 = .int .i64 (a : Int) ∧ s8 = .int .i64 (b : Int) ∧ Hid (t * 20 = a ∧ a + 20 = b ∧ a ≤ m) ∧ Hid (Sf sd 20 t S F) ∧ Hid (∀ o ∈ F, o.buys = sd) ∧ Hid (Sw w0 wr A m c F))
  case atStart => exact ⟨0, 0, 20, S, rfl, rfl, rfl, Lib.hid ⟨rfl, rfl, Nat.zero_le _⟩, Lib.hid (Sf.start S 20), HS, H⟩
  case round =>
    clear H
    obtain ⟨t, a, b, F, rfl, rfl, rfl, hab, HF, hbu, HW⟩ := hrel
    by_cases hbm : b ≤ m
    · have hbmI : (b : Int) ≤ (m : Int) := by omega
      obtain ⟨b2, hb2⟩ : ∃ b2, Hid (b + 20 = b2) := ⟨_, Lib.hid rfl⟩
      have q1 : IntKind.i64.wrap ((b : Int) + 20) = (b2 : Int) := w_add (b := 20) hb2.out (by have := hb2.out; omega)
      have HC := Lib.hid (ins_part HW.out hm hbu.out (a := a) (b := b) (by have := hab.out; omega) hbm)
      have HN := Lib.hid (fun X hX => HF.out.next (X := X) (by have := hab.out; have := hSl.out; omega) hX)
      rw [hab.out.1, hab.out.2.1] at HN
      have HM := Lib.hid (show 5 - (t + 1) < 5 - t by have := hab.out; omega)
      have HB := Lib.hid (fun X (hX : Stab (fst sd) (seg F a b) X) => keep_buys (P := F.take a) (R := F.drop b) hbu.out hX (fun o ho => mem_seg ho) (fun o ho => List.mem_of_mem_take ho) (fun o ho => List.mem_of_mem_drop ho))
      go_wp2_with (go_at_call 71; (with_reducible refine HC.out.mono ?_); rintro e w1 ⟨rfl, X, hX, hw⟩; have HX := Lib.hid hX; have HW' := Lib.hid hw; clear hX hw)
      go_roundg (5 - (t + 1))
      case measure => exact HM.out
      case rel => exact ⟨t + 1, b, b2, _, rfl, by first | rfl | go_num, by first | rfl | go_num, Lib.hid (by have := hab.out; have := hb2.out; omega), Lib.hid (HN.out X HX.out), Lib.hid (HB.out X HX.out), HW'⟩
    · have hbmI : ¬ (b : Int) ≤ (m : Int) := by omega
      have HC := Lib.hid (ins_part HW.out hm hbu.out (a := a) (b := m) (by have := hab.out; omega) (Nat.le_refl _))
      rw [seg_far F a (Nat.le_of_eq HW.out.len)] at HC
      have hdm : Hid (F.drop m = []) := Lib.hid (List.drop_of_length_le (Nat.le_of_eq HW.out.len))
      rw [hdm.out] at HC
      have HN := Lib.hid (fun X hX => HF.out.last (X := X) (by decide) (by have := hab.out; have := hSl.out; omega) hX)
      rw [hab.out.1] at HN
      have HB := Lib.hid (fun X (hX : Stab (fst sd) (F.drop a) X) => keep_buys (P := F.take a) (R := []) hbu.out hX (fun o ho => List.mem_of_mem_drop ho) (fun o ho => List.mem_of_mem_take ho) (fun o ho => by cases ho))
      go_upto_region 7 with (go_at_call 71; (with_reducible refine HC.out.mono ?_); rintro e w1 ⟨rfl, X, hX, hw⟩; have HX := Lib.hid hX; have HW' := Lib.hid hw; clear hX hw)
      have hbu1 := Lib.hid (HB.out X HX.out)
      have HSb := Lib.hid (HN.out X HX.out)
      rw [List.append_nil] at HW' hbu1
      clear HN HB HC HF HW hbu hdm hbm hbmI HX
      obtain ⟨F1, hF1⟩ : ∃ F1, Hid (F.take a ++ X = F1) := ⟨_, Lib.hid rfl⟩
      rw [hF1.out] at HW' hbu1 HSb
      go_loopg [6, 7, 8, 9] 80 (fun gk s6 s7 s8 s9 wr => ∃ (W : Nat) (F : List Ord), gk = 100 - W ∧ s6 = .int .i64 (W : Int) ∧ Hid (W = 20 ∨ W = 40 ∨ W = 80) ∧ Hid (Sb sd W S F) ∧ Hid (∀ o ∈ F, o.buys = sd) ∧ Hid (Sw w0 wr A m c F))
      case atStart => exact ⟨20, F1, rfl, rfl, Lib.hid (.inl rfl), HSb, hbu1, HW'⟩
      case round =>
        clear HW' hbu1 HSb hF1 hab
        obtain ⟨W, F, rfl, rfl, hW, HSb, hbu, HW⟩ := hrel
        by_cases hWm' : W < m
        · have hWmI : (W : Int) < (m : Int) := by omega
          have hWm := Lib.hid hWm'
          obtain ⟨W2, hW2⟩ : ∃ W2, Hid (2 * W = W2) := ⟨_, Lib.hid rfl⟩
          obtain ⟨q2, q3⟩ := w_mul2 hW2.out (by have := hW2.out; omega)
          have HSm := Lib.hid (Sm.start HSb.out)
          clear hWm' HSb
          go_wp2
          go_loopg [7, 8] 5 (fun gk s7 s8 wi => ∃ (t a b : Nat) (F : List Ord), gk = 5 - t ∧ s7 = .int .i64 (a : Int) ∧ s8 = .int .i64 (b : Int) ∧ Hid (t * (2 * W) = a ∧ a + W2 = b ∧ a ≤ m ∧ t * 40 ≤ a) ∧ Hid (Sm sd W t S F) ∧ Hid (∀ o ∈ F, o.buys = sd) ∧ Hid (Sw w0 wi A m c F))
          case atStart => exact ⟨0, 0, W2, F, rfl, rfl, rfl, Lib.hid ⟨by rw [Nat.zero_mul], by omega, Nat.zero_le _, by omega⟩, HSm, hbu, HW⟩
          case round =>
            clear HW HSm hbu
            obtain ⟨t, a, b, F, rfl, rfl, rfl, hab, HSm, hbu, HW⟩ := hrel
            obtain ⟨k, hk⟩ : ∃ k, Hid (a + W = k) := ⟨_, Lib.hid rfl⟩
            have q4 := w_add hk.out (by have := hab.out; have := hk.out; have := hWm.out; omega)
            have hsrt := Lib.hid HSm.out.sorted
            rw [hab.out.1, hk.out, hW2.out, hab.out.2.1] at hsrt
            by_cases hbm : b ≤ m
            · have hbmI : (b : Int) ≤ (m : Int) := by omega
              obtain ⟨b2, hb2⟩ : ∃ b2, Hid (b + W2 = b2) := ⟨_, Lib.hid rfl⟩
              have q5 := w_add hb2.out (by have := hab.out; have := hb2.out; omega)
              have hrn : Hid (a < k ∧ k < b) := Lib.hid (by have := hab.out; have := hk.out; have := hW2.out; have := hW.out; omega)
              have HC := Lib.hid (sym_part HW.out hm hbu.out hrn.out.1 hrn.out.2 hbm hsrt.out.1 hsrt.out.2)
              have HN := Lib.hid (fun X hX => HSm.out.next (X := X) (by rw [hab.out.1, hW2.out, hab.out.2.1, hSl.out]; exact hbm) hX)
              rw [hab.out.1, hk.out, hW2.out, hab.out.2.1] at HN
              have HM := Lib.hid (show 5 - (t + 1) < 5 - t by have := hab.out; omega)
              have HB := Lib.hid (fun X (hX : Stab (fst sd) (seg F a k ++ seg F k b) X) => keep_buys (P := F.take a) (R := F.drop b) hbu.out hX (fun o ho => by rcases List.mem_append.1 ho with ho | ho <;> exact mem_seg ho) (fun o ho => List.mem_of_mem_take ho) (fun o ho => List.mem_of_mem_drop ho))
              have hnx : Hid ((t + 1) * (2 * W) = b ∧ b + W2 = b2 ∧ b ≤ m ∧ (t + 1) * 40 ≤ b) := Lib.hid ⟨by rw [Nat.add_mul, Nat.one_mul, hab.out.1, hW2.out]; exact hab.out.2.1, hb2.out, hbm, by have := hab.out; have := hW2.out; have := hW.out; omega⟩
              clear hsrt hbm
              go_wp2_with (go_at_call 72; (with_reducible refine HC.out.mono ?_); rintro e w1 ⟨rfl, X, hX, hw⟩; have HX := Lib.hid hX; have HW' := Lib.hid hw; clear hX hw)
              go_roundg (5 - (t + 1))
              case measure => exact HM.out
              case rel => exact ⟨t + 1, b, b2, _, rfl, by first | rfl | go_num, by first | rfl | go_num, hnx, Lib.hid (HN.out X HX.out), Lib.hid (HB.out X HX.out), HW'⟩
            · have hbmI : ¬ (b : Int) ≤ (m : Int) := by omega
              by_cases hkm : k < m
              · have hkmI : (k : Int) < (m : Int) := by omega
                have hfm : Hid (seg F k b = F.drop k ∧ F.drop m = []) := Lib.hid ⟨seg_far F k (by rw [HW.out.len]; omega), List.drop_of_length_le (Nat.le_of_eq HW.out.len)⟩
                have hfm2 : Hid (seg F k m = F.drop k) := Lib.hid (seg_far F k (Nat.le_of_eq HW.out.len))
                have hrn : Hid (a < k) := Lib.hid (by have := hk.out; have := hW.out; omega)
                have HC := Lib.hid (sym_part HW.out hm hbu.out hrn.out hkm (Nat.le_refl _) hsrt.out.1 (by rw [hfm2.out, ← hfm.out.1]; exact hsrt.out.2))
                rw [hfm2.out, hfm.out.2] at HC
                have HN := Lib.hid (fun X hX => HSm.out.last (X := X) (by rw [hab.out.1, hSl.out]; exact hab.out.2.2.1) (by rw [hab.out.1, hW2.out, hab.out.2.1, hSl.out]; omega) hX)
                rw [hab.out.1, hk.out, hW2.out] at HN
                have HB := Lib.hid (fun X (hX : Stab (fst sd) (seg F a k ++ F.drop k) X) => keep_buys (P := F.take a) (R := []) hbu.out hX (fun o ho => by
                  rcases List.mem_append.1 ho with ho | ho
                  · exact mem_seg ho
                  · exact List.mem_of_mem_drop ho) (fun o ho => List.mem_of_mem_take ho) (fun o ho => by cases ho))
                clear hsrt hfm hfm2 hbm hkm HSm
                go_upto_region 16 with (go_at_call 72; (with_reducible refine HC.out.mono ?_); rintro e w1 ⟨rfl, X, hX, hw⟩; have HX := Lib.hid hX; have HWx := Lib.hid hw; clear hX hw)
                have hbu2 := Lib.hid (HB.out X HX.out)
                have HSb2 := Lib.hid (HN.out X HX.out)
                rw [List.append_nil] at HWx hbu2
                clear HN HB HC HW hbu
                go_wp2
                go_roundg (100 - W2)
                case measure => have := hW2.out; have := hW.out; have := hWm.out; omega
                case rel => exact ⟨W2, _, rfl, by first | rfl | go_num, Lib.hid (by have := hW2.out; have := hW.out; have := hWm.out; omega), HSb2, hbu2, HWx⟩
              · have hkmI : ¬ (k : Int) < (m : Int) := by omega
                have HSb2 := Lib.hid (HSm.out.alone (by rw [hab.out.1, hk.out, hSl.out]; omega))
                rw [hW2.out] at HSb2
                clear hsrt hbm hkm HSm
                go_wp2
                go_roundg (100 - W2)
                case measure => have := hW2.out; have := hW.out; have := hWm.out; omega
                case rel => exact ⟨W2, _, rfl, by first | rfl | go_num, Lib.hid (by have := hW2.out; have := hW.out; have := hWm.out; omega), HSb2, hbu, HW⟩
        · have hWmI : ¬ (W : Int) < (m : Int) := by omega
          have HE := Lib.hid (HSb.out.whole (by rw [hSl.out]; omega))
          clear hWm' HSb
          go_wp2
          go_end0
          exact ⟨rfl, F, HE.out, HW.out⟩
set_option maxHeartbeats 2000000 in
theorem sort_calls (w0 w : World) (A : Option Addr) (m c : Nat) (S : List Ord) (sd : Bool) (h : Sw w0 w A m c S) (hm : m ≤ 64) (hS : ∀ o ∈ S, o.buys = sd) :
    Calls Try.prog 38 #[.slice A m c, .func (.func 39) #[] #[]] w fun e w' => e = .returned (.tuple #[]) ∧ ∃ F, Stab (fst sd) S F ∧ Sw w0 w' A m c F := by
  have HC := Lib.hid (stable_calls w0 w A m c S sd h hm hS)
  clear h hS
  go_enter Try.func38, Try.ntmps38
  go_wp2_with (go_at_call 59; (with_reducible refine HC.out.mono ?_); rintro e w1 ⟨rfl, X, hX, hw⟩; have HX := Lib.hid hX; have HWx := Lib.hid hw; clear hX hw)
  go_end0
  exact ⟨rfl, X, HX.out, HWx.out⟩
end Go.Proofs.Ytilbhnloelgpdaa
