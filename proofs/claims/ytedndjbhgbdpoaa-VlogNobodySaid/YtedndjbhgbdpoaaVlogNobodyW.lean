/- The walk of VlogNobody: a log that there is not takes and tells nothing. -/
import Derived.Test.YtedndjbhgbdpoaaBegun
namespace Go.Proofs.Ytedndjbhgbdpoaa
open Go.RowKit
set_option maxHeartbeats 4000000 in
set_option maxRecDepth 100000 in
theorem VlogNobody_walk (w : World) (a : VAct) : Calls Try.prog 11 #[.agg (acells a).toArray] w fun e w' => e = .returned (.bool true) ∧ Below w.heap.size w w' := by
  have HD := Lib.hid (fun w => done_nil w a)
  obtain ⟨kd, fr, vw, sq, d, t⟩ := a
  unfold acells at HD ⊢
  have HA := Lib.hid (fun w => awake_calls w)
  have B0 : Hid (Blk (w.alloc (.cells #[.int .i64 kd, .int .i64 fr, .int .i64 vw, .int .i64 sq, .string d, .string t] 32)) w.heap.size 32 #[.int .i64 kd, .int .i64 fr, .int .i64 vw, .int .i64 sq, .string d, .string t]) := Lib.hid (Blk.new _ _ _)
  have HB : Hid (Below w.heap.size w (w.alloc (.cells #[.int .i64 kd, .int .i64 fr, .int .i64 vw, .int .i64 sq, .string d, .string t] 32))) := Lib.hid ((Below.refl _ _).alloc (Nat.le_refl _) _)
  go_enter Try.func11, Try.ntmps11
  go_upto_region 3 with (first
    | (go_at_call 25; (with_reducible refine (proposal_nil _ _).mono ?_); rintro e w1 ⟨rfl, rfl⟩))
  obtain ⟨b0, hb0⟩ : ∃ b0, w.heap.size = b0 := ⟨_, rfl⟩
  rw [hb0] at B0 ⊢
  have HBS := Lib.hid hb0
  clear hb0
  generalize World.alloc w _ = w1 at HB B0 ⊢
  have c1 : w1.cell? ⟨b0, 1, none⟩ = some (.int .i64 fr) := B0.out.cell 1
  have c3 : w1.cell? ⟨b0, 3, none⟩ = some (.int .i64 sq) := B0.out.cell 3
  go_upto_region 4 with (first
    | (go_at_call 26; (with_reducible refine (voted_nil _ _ _ _).mono ?_); rintro e w2 ⟨rfl, hv⟩; have HV := Lib.hid hv; clear hv))
  have HB2 : Hid (Below w.heap.size w (w2.alloc (.cells #[.int .i64 0, .string ⟨#[]⟩, .string ⟨#[]⟩] 48))) := Lib.hid (below_next HB.out (below_next HV.out ((Below.refl _ _).alloc (Nat.le_refl _) _)))
  have B2 : Hid (Blk (w2.alloc (.cells #[.int .i64 0, .string ⟨#[]⟩, .string ⟨#[]⟩] 48)) b0 32 #[.int .i64 kd, .int .i64 fr, .int .i64 vw, .int .i64 sq, .string d, .string t]) := Lib.hid ((B0.out.below HV.out B0.out.lt).alloc _)
  have C2 : Hid (Blk (w2.alloc (.cells #[.int .i64 0, .string ⟨#[]⟩, .string ⟨#[]⟩] 48)) w2.heap.size 48 #[.int .i64 0, .string ⟨#[]⟩, .string ⟨#[]⟩]) := Lib.hid (Blk.new _ _ _)
  clear c1 c3
  generalize w2.heap.size = gs at C2 ⊢
  generalize World.alloc w2 _ = w3 at HB2 B2 C2 ⊢
  have x0 : w3.cell? ⟨b0, 0, none⟩ = some (.int .i64 kd) := B2.out.cell 0
  have x1 : w3.cell? ⟨b0, 1, none⟩ = some (.int .i64 fr) := B2.out.cell 1
  have x2 : w3.cell? ⟨b0, 2, none⟩ = some (.int .i64 vw) := B2.out.cell 2
  have x3 : w3.cell? ⟨b0, 3, none⟩ = some (.int .i64 sq) := B2.out.cell 3
  have x4 : w3.cell? ⟨b0, 4, none⟩ = some (.string d) := B2.out.cell 4
  have x5 : w3.cell? ⟨b0, 5, none⟩ = some (.string t) := B2.out.cell 5
  go_wp2_with (first
    | (go_at_call 28; (with_reducible refine (stable_nil _).mono ?_); rintro e w4 ⟨rfl, rfl⟩)
    | (go_at_call 16; (with_reducible refine (HD.out _).mono ?_); rintro e w4 ⟨rfl, hd⟩; have HD4 := Lib.hid hd; clear hd; have z3 : w4.cell? ⟨b0, 3, none⟩ = some (.int .i64 sq) := (B2.out.below HD4.out B2.out.lt).cell 3; have s0 : w4.cell? ⟨gs, 0, none⟩ = some (.int .i64 0) := (C2.out.below HD4.out C2.out.lt).cell 0; have s1 : w4.cell? ⟨gs, 1, none⟩ = some (.string ⟨#[]⟩) := (C2.out.below HD4.out C2.out.lt).cell 1; have s2 : w4.cell? ⟨gs, 2, none⟩ = some (.string ⟨#[]⟩) := (C2.out.below HD4.out C2.out.lt).cell 2)
    | (go_at_call 22; (with_reducible refine (kept_nil _).mono ?_); rintro e w5 ⟨rfl, rfl⟩)
    | (go_at_call 18; (with_reducible refine (prepared_nil _ _).mono ?_); rintro e w5 ⟨rfl, rfl⟩)
    | (go_at_call 21; (with_reducible refine (committed_nil _ _).mono ?_); rintro e w5 ⟨rfl, rfl⟩)
    | (go_at_call 23; (with_reducible refine (view_nil _).mono ?_); rintro e w5 ⟨rfl, rfl⟩)
    | (go_at_call 20; (with_reducible refine (low_nil _).mono ?_); rintro e w5 ⟨rfl, rfl⟩)
    | (go_at_call 14; (with_reducible refine (HA.out _).mono ?_); rintro e w6 ⟨rfl, ha⟩; have HA6 := Lib.hid ha; clear ha))
  go_ret
  exact ⟨rfl, below_next (below_next HB2.out HD4.out) HA6.out⟩
end Go.Proofs.Ytedndjbhgbdpoaa
