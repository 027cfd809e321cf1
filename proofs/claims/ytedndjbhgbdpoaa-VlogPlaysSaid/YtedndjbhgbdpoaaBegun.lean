/- done at a log that there is not; begun. -/
import Derived.Test.YtedndjbhgbdpoaaAwake
namespace Go.Proofs.Ytedndjbhgbdpoaa
open Go.RowKit
theorem doneNil0 (w : World) (kd fr vw sq : Int) (d t : ByteArray) (hk : arnd kd 6 = 0) : Calls Try.prog 16 #[.pointer none, .agg #[.int .i64 kd, .int .i64 fr, .int .i64 vw, .int .i64 sq, .string d, .string t]] w fun e w' => e = .returned (.int .i64 1) ∧ Below w.heap.size w w' := by
  have HK := Lib.hid (fun w => around6 kd w)
  rw [hk] at HK
  have HB : Hid (Below w.heap.size w (w.alloc (.cells #[.int .i64 kd, .int .i64 fr, .int .i64 vw, .int .i64 sq, .string d, .string t] 32))) := Lib.hid ((Below.refl _ _).alloc (Nat.le_refl _) _)
  clear hk
  go_enter Try.func16, Try.ntmps16
  go_wp2_with (first
    | (go_at_call 12; (with_reducible refine (HK.out _).mono ?_); rintro e w1 ⟨rfl, rfl⟩)
    | (go_at_call 29; (with_reducible refine (enter_nil _ _).mono ?_); rintro e w2 ⟨rfl, rfl⟩))
  go_ret
  exact ⟨rfl, HB.out⟩
theorem doneNil1 (w : World) (kd fr vw sq : Int) (d t : ByteArray) (hk : arnd kd 6 = 1) : Calls Try.prog 16 #[.pointer none, .agg #[.int .i64 kd, .int .i64 fr, .int .i64 vw, .int .i64 sq, .string d, .string t]] w fun e w' => e = .returned (.int .i64 1) ∧ Below w.heap.size w w' := by
  have HK := Lib.hid (fun w => around6 kd w)
  rw [hk] at HK
  have HB : Hid (Below w.heap.size w (w.alloc (.cells #[.int .i64 kd, .int .i64 fr, .int .i64 vw, .int .i64 sq, .string d, .string t] 32))) := Lib.hid ((Below.refl _ _).alloc (Nat.le_refl _) _)
  clear hk
  go_enter Try.func16, Try.ntmps16
  go_wp2_with (first
    | (go_at_call 12; (with_reducible refine (HK.out _).mono ?_); rintro e w1 ⟨rfl, rfl⟩)
    | (go_at_call 15; (with_reducible refine (propose_nil _ _ _ _ _).mono ?_); rintro e w2 ⟨rfl, rfl⟩))
  go_ret
  exact ⟨rfl, HB.out⟩
theorem doneNil5 (w : World) (kd fr vw sq : Int) (d t : ByteArray) (hk : arnd kd 6 = 5) : Calls Try.prog 16 #[.pointer none, .agg #[.int .i64 kd, .int .i64 fr, .int .i64 vw, .int .i64 sq, .string d, .string t]] w fun e w' => e = .returned (.int .i64 1) ∧ Below w.heap.size w w' := by
  have HK := Lib.hid (fun w => around6 kd w)
  rw [hk] at HK
  have HB : Hid (Below w.heap.size w (w.alloc (.cells #[.int .i64 kd, .int .i64 fr, .int .i64 vw, .int .i64 sq, .string d, .string t] 32))) := Lib.hid ((Below.refl _ _).alloc (Nat.le_refl _) _)
  clear hk
  go_enter Try.func16, Try.ntmps16
  go_wp2_with (first
    | (go_at_call 12; (with_reducible refine (HK.out _).mono ?_); rintro e w1 ⟨rfl, rfl⟩)
    | (go_at_call 27; (with_reducible refine (cut_nil _ _).mono ?_); rintro e w2 ⟨rfl, rfl⟩))
  go_ret
  exact ⟨rfl, HB.out⟩
theorem doneNil2 (w : World) (kd fr vw sq : Int) (d t : ByteArray) (hk : arnd kd 6 = 2) : Calls Try.prog 16 #[.pointer none, .agg #[.int .i64 kd, .int .i64 fr, .int .i64 vw, .int .i64 sq, .string d, .string t]] w fun e w' => e = .returned (.int .i64 1) ∧ Below w.heap.size w w' := by
  have HK := Lib.hid (fun w => around6 kd w)
  rw [hk] at HK
  have HB : Hid (Below w.heap.size w (w.alloc (.cells #[.int .i64 kd, .int .i64 fr, .int .i64 vw, .int .i64 sq, .string d, .string t] 32))) := Lib.hid ((Below.refl _ _).alloc (Nat.le_refl _) _)
  have HM := Lib.hid (fun w => message_calls kd fr vw sq d t w)
  have HD := Lib.hid (fun w => body2_calls kd fr vw sq d t w hk)
  have B0 : Hid (Blk (w.alloc (.cells #[.int .i64 kd, .int .i64 fr, .int .i64 vw, .int .i64 sq, .string d, .string t] 32)) w.heap.size 32 #[.int .i64 kd, .int .i64 fr, .int .i64 vw, .int .i64 sq, .string d, .string t]) := Lib.hid (Blk.new _ _ _)
  clear hk
  go_enter Try.func16, Try.ntmps16
  go_upto_region 8 with (first
    | (go_at_call 12; (with_reducible refine (HK.out _).mono ?_); rintro e w1 ⟨rfl, rfl⟩))
  obtain ⟨b0, hb0⟩ : ∃ b0, w.heap.size = b0 := ⟨_, rfl⟩
  rw [hb0] at B0 ⊢
  have HBS := Lib.hid hb0
  clear hb0
  generalize World.alloc w _ = w1 at HB B0 ⊢
  have HS : Hid (∀ w' : World, Below w1.heap.size w1 w' → (w'.cell? ⟨b0, 0, none⟩ = some (.int .i64 kd) ∧ w'.cell? ⟨b0, 1, none⟩ = some (.int .i64 fr) ∧ w'.cell? ⟨b0, 2, none⟩ = some (.int .i64 vw) ∧ w'.cell? ⟨b0, 3, none⟩ = some (.int .i64 sq) ∧ w'.cell? ⟨b0, 4, none⟩ = some (.string d) ∧ w'.cell? ⟨b0, 5, none⟩ = some (.string t))) := Lib.hid fun w' hb => by
    have B := B0.out.below hb B0.out.lt
    exact ⟨B.cell 0, B.cell 1, B.cell 2, B.cell 3, B.cell 4, B.cell 5⟩
  have Hd0 : Hid (Below w1.heap.size w1 w1.drew) := Lib.hid (Below.refl _ _).drew
  go_region_held3 (fun w' => w'.cell? ⟨b0, 0, none⟩ = some (.int .i64 kd) ∧ w'.cell? ⟨b0, 1, none⟩ = some (.int .i64 fr) ∧ w'.cell? ⟨b0, 2, none⟩ = some (.int .i64 vw) ∧ w'.cell? ⟨b0, 3, none⟩ = some (.int .i64 sq) ∧ w'.cell? ⟨b0, 4, none⟩ = some (.string d) ∧ w'.cell? ⟨b0, 5, none⟩ = some (.string t))
    (first | exact HS.out _ Hd0.out | exact HS.out _ (below_next Hd0.out hbm) | exact HS.out _ (below_next Hd0.out hbd) | exact HS.out _ (below_next (below_next Hd0.out hbm) hbd) | exact HS.out _ (below_next (below_next Hd0.out hbd) hbm) | exact HS.out _ (below_next (below_next (below_next Hd0.out hbm) hbd) h2) | exact HS.out _ (below_next (below_next (below_next Hd0.out hbd) hbm) h2))
    (first
      | (go_at_call 38; (with_reducible refine (HM.out _).mono ?_); rintro e wm ⟨rfl, hbm⟩)
      | (go_at_call 39; (with_reducible refine (HD.out _).mono ?_); rintro e wd ⟨rfl, hbd⟩)
      | (go_at_call 37; (with_reducible refine (vote_nil _ _ _).mono ?_); rintro e w2 ⟨rfl, h2⟩))
  all_goals
    go_wp2
    go_ret
    first
      | exact ⟨rfl, below_next HB.out (below_next (below_next (below_next Hd0.out hbm) hbd) h2)⟩
      | exact ⟨rfl, below_next HB.out (below_next (below_next (below_next Hd0.out hbd) hbm) h2)⟩
theorem doneNil3 (w : World) (kd fr vw sq : Int) (d t : ByteArray) (hk : arnd kd 6 = 3) : Calls Try.prog 16 #[.pointer none, .agg #[.int .i64 kd, .int .i64 fr, .int .i64 vw, .int .i64 sq, .string d, .string t]] w fun e w' => e = .returned (.int .i64 1) ∧ Below w.heap.size w w' := by
  have HK := Lib.hid (fun w => around6 kd w)
  rw [hk] at HK
  have HB : Hid (Below w.heap.size w (w.alloc (.cells #[.int .i64 kd, .int .i64 fr, .int .i64 vw, .int .i64 sq, .string d, .string t] 32))) := Lib.hid ((Below.refl _ _).alloc (Nat.le_refl _) _)
  have HM := Lib.hid (fun w => message_calls kd fr vw sq d t w)
  have HD := Lib.hid (fun w => body3_calls kd fr vw sq d t w hk)
  have B0 : Hid (Blk (w.alloc (.cells #[.int .i64 kd, .int .i64 fr, .int .i64 vw, .int .i64 sq, .string d, .string t] 32)) w.heap.size 32 #[.int .i64 kd, .int .i64 fr, .int .i64 vw, .int .i64 sq, .string d, .string t]) := Lib.hid (Blk.new _ _ _)
  clear hk
  go_enter Try.func16, Try.ntmps16
  go_upto_region 8 with (first
    | (go_at_call 12; (with_reducible refine (HK.out _).mono ?_); rintro e w1 ⟨rfl, rfl⟩))
  obtain ⟨b0, hb0⟩ : ∃ b0, w.heap.size = b0 := ⟨_, rfl⟩
  rw [hb0] at B0 ⊢
  have HBS := Lib.hid hb0
  clear hb0
  generalize World.alloc w _ = w1 at HB B0 ⊢
  have HS : Hid (∀ w' : World, Below w1.heap.size w1 w' → (w'.cell? ⟨b0, 0, none⟩ = some (.int .i64 kd) ∧ w'.cell? ⟨b0, 1, none⟩ = some (.int .i64 fr) ∧ w'.cell? ⟨b0, 2, none⟩ = some (.int .i64 vw) ∧ w'.cell? ⟨b0, 3, none⟩ = some (.int .i64 sq) ∧ w'.cell? ⟨b0, 4, none⟩ = some (.string d) ∧ w'.cell? ⟨b0, 5, none⟩ = some (.string t))) := Lib.hid fun w' hb => by
    have B := B0.out.below hb B0.out.lt
    exact ⟨B.cell 0, B.cell 1, B.cell 2, B.cell 3, B.cell 4, B.cell 5⟩
  have Hd0 : Hid (Below w1.heap.size w1 w1.drew) := Lib.hid (Below.refl _ _).drew
  go_region_held3 (fun w' => w'.cell? ⟨b0, 0, none⟩ = some (.int .i64 kd) ∧ w'.cell? ⟨b0, 1, none⟩ = some (.int .i64 fr) ∧ w'.cell? ⟨b0, 2, none⟩ = some (.int .i64 vw) ∧ w'.cell? ⟨b0, 3, none⟩ = some (.int .i64 sq) ∧ w'.cell? ⟨b0, 4, none⟩ = some (.string d) ∧ w'.cell? ⟨b0, 5, none⟩ = some (.string t))
    (first | exact HS.out _ Hd0.out | exact HS.out _ (below_next Hd0.out hbm) | exact HS.out _ (below_next Hd0.out hbd) | exact HS.out _ (below_next (below_next Hd0.out hbm) hbd) | exact HS.out _ (below_next (below_next Hd0.out hbd) hbm) | exact HS.out _ (below_next (below_next (below_next Hd0.out hbm) hbd) h2) | exact HS.out _ (below_next (below_next (below_next Hd0.out hbd) hbm) h2))
    (first
      | (go_at_call 38; (with_reducible refine (HM.out _).mono ?_); rintro e wm ⟨rfl, hbm⟩)
      | (go_at_call 39; (with_reducible refine (HD.out _).mono ?_); rintro e wd ⟨rfl, hbd⟩)
      | (go_at_call 37; (with_reducible refine (vote_nil _ _ _).mono ?_); rintro e w2 ⟨rfl, h2⟩))
  all_goals
    go_wp2
    go_ret
    first
      | exact ⟨rfl, below_next HB.out (below_next (below_next (below_next Hd0.out hbm) hbd) h2)⟩
      | exact ⟨rfl, below_next HB.out (below_next (below_next (below_next Hd0.out hbd) hbm) h2)⟩
theorem doneNil4 (w : World) (kd fr vw sq : Int) (d t : ByteArray) (hk : arnd kd 6 = 4) : Calls Try.prog 16 #[.pointer none, .agg #[.int .i64 kd, .int .i64 fr, .int .i64 vw, .int .i64 sq, .string d, .string t]] w fun e w' => e = .returned (.int .i64 1) ∧ Below w.heap.size w w' := by
  have HK := Lib.hid (fun w => around6 kd w)
  rw [hk] at HK
  have HB : Hid (Below w.heap.size w (w.alloc (.cells #[.int .i64 kd, .int .i64 fr, .int .i64 vw, .int .i64 sq, .string d, .string t] 32))) := Lib.hid ((Below.refl _ _).alloc (Nat.le_refl _) _)
  have HM := Lib.hid (fun w => message_calls kd fr vw sq d t w)
  have HD := Lib.hid (fun w => body4_calls kd fr vw sq d t w hk)
  have B0 : Hid (Blk (w.alloc (.cells #[.int .i64 kd, .int .i64 fr, .int .i64 vw, .int .i64 sq, .string d, .string t] 32)) w.heap.size 32 #[.int .i64 kd, .int .i64 fr, .int .i64 vw, .int .i64 sq, .string d, .string t]) := Lib.hid (Blk.new _ _ _)
  clear hk
  go_enter Try.func16, Try.ntmps16
  go_upto_region 10 with (first
    | (go_at_call 12; (with_reducible refine (HK.out _).mono ?_); rintro e w1 ⟨rfl, rfl⟩))
  obtain ⟨b0, hb0⟩ : ∃ b0, w.heap.size = b0 := ⟨_, rfl⟩
  rw [hb0] at B0 ⊢
  have HBS := Lib.hid hb0
  clear hb0
  generalize World.alloc w _ = w1 at HB B0 ⊢
  have HS : Hid (∀ w' : World, Below w1.heap.size w1 w' → (w'.cell? ⟨b0, 0, none⟩ = some (.int .i64 kd) ∧ w'.cell? ⟨b0, 1, none⟩ = some (.int .i64 fr) ∧ w'.cell? ⟨b0, 2, none⟩ = some (.int .i64 vw) ∧ w'.cell? ⟨b0, 3, none⟩ = some (.int .i64 sq) ∧ w'.cell? ⟨b0, 4, none⟩ = some (.string d) ∧ w'.cell? ⟨b0, 5, none⟩ = some (.string t))) := Lib.hid fun w' hb => by
    have B := B0.out.below hb B0.out.lt
    exact ⟨B.cell 0, B.cell 1, B.cell 2, B.cell 3, B.cell 4, B.cell 5⟩
  have Hd0 : Hid (Below w1.heap.size w1 w1.drew) := Lib.hid (Below.refl _ _).drew
  go_region_held3 (fun w' => w'.cell? ⟨b0, 0, none⟩ = some (.int .i64 kd) ∧ w'.cell? ⟨b0, 1, none⟩ = some (.int .i64 fr) ∧ w'.cell? ⟨b0, 2, none⟩ = some (.int .i64 vw) ∧ w'.cell? ⟨b0, 3, none⟩ = some (.int .i64 sq) ∧ w'.cell? ⟨b0, 4, none⟩ = some (.string d) ∧ w'.cell? ⟨b0, 5, none⟩ = some (.string t))
    (first | exact HS.out _ Hd0.out | exact HS.out _ (below_next Hd0.out hbm) | exact HS.out _ (below_next Hd0.out hbd) | exact HS.out _ (below_next (below_next Hd0.out hbm) hbd) | exact HS.out _ (below_next (below_next Hd0.out hbd) hbm) | exact HS.out _ (below_next (below_next (below_next Hd0.out hbm) hbd) h2) | exact HS.out _ (below_next (below_next (below_next Hd0.out hbd) hbm) h2))
    (first
      | (go_at_call 38; (with_reducible refine (HM.out _).mono ?_); rintro e wm ⟨rfl, hbm⟩)
      | (go_at_call 39; (with_reducible refine (HD.out _).mono ?_); rintro e wd ⟨rfl, hbd⟩)
      | (go_at_call 40; (with_reducible refine (check_nil _ _ _).mono ?_); rintro e w2 ⟨rfl, h2⟩))
  all_goals
    go_wp2
    go_ret
    first
      | exact ⟨rfl, below_next HB.out (below_next (below_next (below_next Hd0.out hbm) hbd) h2)⟩
      | exact ⟨rfl, below_next HB.out (below_next (below_next (below_next Hd0.out hbd) hbm) h2)⟩
theorem done_nil (w : World) (a : VAct) : Calls Try.prog 16 #[.pointer none, .agg (acells a).toArray] w fun e w' => e = .returned (.int .i64 1) ∧ Below w.heap.size w w' := by
  have := arnd_lt a.kind (below := 6) (by omega)
  rcases (show arnd a.kind 6 = 0 ∨ arnd a.kind 6 = 1 ∨ arnd a.kind 6 = 2 ∨ arnd a.kind 6 = 3 ∨ arnd a.kind 6 = 4 ∨ arnd a.kind 6 = 5 by omega) with e | e | e | e | e | e
  · exact doneNil0 w a.kind a.frm a.view a.seq a.d a.t e
  · exact doneNil1 w a.kind a.frm a.view a.seq a.d a.t e
  · exact doneNil2 w a.kind a.frm a.view a.seq a.d a.t e
  · exact doneNil3 w a.kind a.frm a.view a.seq a.d a.t e
  · exact doneNil4 w a.kind a.frm a.view a.seq a.d a.t e
  · exact doneNil5 w a.kind a.frm a.view a.seq a.d a.t e
def Vl.acts (x : Vl) (Z : Nat → VAct) : Nat → Vl
  | 0 => x
  | i + 1 => ((Vl.acts x Z i).act (Z i)).1
def Vl.seven : Vl := Vl.fresh 7
/-- What begun gives. -/
def Begins (w0 : World) (x : Vl) (e : Ending) (w' : World) : Prop := ∃ g, e = .returned (.pointer (some ⟨g, 0, none⟩)) ∧ Vw w0 w' g x
theorem begins {w0 w' : World} {x y : Vl} {g : Nat} (h : Vw w0 w' g x) (hab : x = y) : Begins w0 y (.returned (.pointer (some ⟨g, 0, none⟩))) w' := by
  subst hab
  exact ⟨g, rfl, h⟩
set_option maxHeartbeats 2000000 in
theorem begun_calls (w : World) (A : Option Addr) (n c : Nat) (Z : Nat → VAct) (hZ : Script w A n Z) :
    Calls Try.prog 19 #[.slice A n c] w (Begins w (Vl.seven.acts Z (min n 80))) := by
  have HZ := Lib.hid hZ
  clear hZ
  have HF := Lib.hid (Vw.new w w (Below.refl _ _) 7 (by omega))
  go_enter Try.func19, Try.ntmps19
  go_wp2_with (first
    | (go_at_call 13; (refine HF.out.mono ?_); rintro e w1 ⟨g, rfl, h⟩; have H0 : Hid (Vw w w1 g (Vl.seven.acts Z 0)) := Lib.hid h; clear h))
  clear HF
  go_loopg [5] 81 (fun gk s5 wr => ∃ i, gk = 81 - i ∧ i ≤ min n 80 ∧ s5 = .int .i64 (i : Int) ∧ Hid (Vw w wr g (Vl.seven.acts Z i)))
  case atStart => exact ⟨0, rfl, Nat.zero_le _, rfl, H0⟩
  case round =>
    clear H0
    obtain ⟨i, rfl, hi, rfl, H⟩ := hrel
    have i0 : (0 : Int) ≤ (i : Int) := by omega
    by_cases hgo : i < n ∧ i < 80
    · obtain ⟨hin, hi80⟩ := hgo
      have i80 : (i : Int) < 80 := by omega
      have hinI : (i : Int) < (n : Int) := by omega
      obtain ⟨b, o, rfl⟩ := HZ.out.at_ hin
      obtain ⟨z0, z1, z2, z3, z4, z5⟩ := HZ.out.cells hin H.out.all
      have hact : Hid (Vl.seven.acts Z (i + 1) = ((Vl.seven.acts Z i).act (Z i)).1) := Lib.hid rfl
      generalize Vl.seven.acts Z i = x at H hact
      have HD := Lib.hid (H.out.done (Z i))
      unfold acells at HD
      generalize (Z i).kind = y0 at z0 HD
      generalize (Z i).frm = y1 at z1 HD
      generalize (Z i).view = y2 at z2 HD
      generalize (Z i).seq = y3 at z3 HD
      generalize (Z i).d = y4 at z4 HD
      generalize (Z i).t = y5 at z5 HD
      go_wp2_with (first
        | (go_at_call 16; (refine HD.out.mono ?_); rintro e w1 ⟨rfl, h⟩; have H1 := Lib.hid h; clear h))
      go_roundg (81 - (i + 1))
      case measure => omega
      case rel => exact ⟨i + 1, rfl, by omega, by go_num, by rw [hact.out]; exact H1⟩
    · have him : i = min n 80 := by omega
      by_cases hin : i < n
      · have hi80 : ¬ i < 80 := fun h => hgo ⟨hin, h⟩
        have hi80I : ¬ (i : Int) < 80 := by omega
        have hinI : (i : Int) < (n : Int) := by omega
        have HM := Lib.hid him
        clear hgo him hi
        go_wp2
        go_ret
        exact begins H.out (by rw [← HM.out])
      · have HM := Lib.hid him
        clear hgo him hi
        go_wp2
        go_ret
        exact begins H.out (by rw [← HM.out])
end Go.Proofs.Ytedndjbhgbdpoaa
