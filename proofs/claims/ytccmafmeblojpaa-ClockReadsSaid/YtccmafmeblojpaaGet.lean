/- The contracts of caught, of what GetInt defers, and of GetInt. -/
import Derived.Test.YtccmafmeblojpaaNum1
import Derived.Recover
namespace Go.Proofs.Ytccmafmeblojpaa
open Go.RowKit
set_option linter.unusedVariables false
set_option linter.unusedSimpArgs false
theorem caught_calls (w : World) (x : Int) : Calls Try.prog 51 #[.iface 92 (.int .i64 x)] w fun e w' => e = .returned (.int .i64 x) ∧ w' = w := by
  have hta : ∀ (y : Int) (w : World), (Instr.typeAssert (.iface 92 (.int .i64 y)) 20 92 true).run Try.prog w = .ok (.tuple #[.int .i64 y, .bool true]) w := fun y w => by kernel_rfl
  go_enter Try.func51, Try.ntmps51
  go_wp2
  go_ret
  exact ⟨rfl, rfl⟩
theorem catch_idle (p q r : Addr) (w : World) :
    CallsD Try.prog 50 #[.pointer (some p), .pointer (some q), .pointer (some r)] .returning w fun e u' w' => e = .returned (.tuple #[]) ∧ u' = .returning ∧ w' = w := by
  refine callsD_of_wpS Try.func50 rfl fun c₀ cs hu => ?_
  apply wpS_seq
  apply wpS_region
  simp [wpOpsS, go_sem, recoverD, hu, Try.ntmps50, Exit.thenS]
  refine wpS_of_wp ?_
  change Code.wp Try.prog _ _ { tmps := #[.pointer (some p), .pointer (some q), .pointer (some r), .nilIface, .nilIface, undef, undef, undef, undef], defers := [] } _
  go_wp2
  exact ⟨rfl, .returning, by cases c₀; simp_all, .tuple #[], by simp [results, Try.results50], rfl, rfl, rfl⟩
theorem catch_panicking (g0 g1 g2 : Nat) (h01 : g0 < g1) (h12 : g1 < g2) (x : Int) (older : List PanicEntry) (w : World) (v0 v1 v2 : Value) (c0 : w.cell? ⟨g0, 0, none⟩ = some v0) (c1 : w.cell? ⟨g1, 0, none⟩ = some v1) (c2 : w.cell? ⟨g2, 0, none⟩ = some v2) (f0 : w.frozen? ⟨g0, 0, none⟩ = false) (f1 : w.frozen? ⟨g1, 0, none⟩ = false) (f2 : w.frozen? ⟨g2, 0, none⟩ = false) :
    CallsD Try.prog 50 #[.pointer (some ⟨g0, 0, none⟩), .pointer (some ⟨g1, 0, none⟩), .pointer (some ⟨g2, 0, none⟩)] (.panicking ({ v := .iface 92 (.int .i64 x), recovered := false } :: older)) w fun e u' w' =>
      e = .returned (.tuple #[]) ∧ u' = .panicking ({ v := .iface 92 (.int .i64 x), recovered := true } :: older) ∧ w' = ((w.setCell ⟨g0, 0, none⟩ (.int .i64 0)).setCell ⟨g1, 0, none⟩ (.int .i64 0)).setCell ⟨g2, 0, none⟩ (.int .i64 x) := by
  refine callsD_of_wpS Try.func50 rfl fun c₀ cs hu => ?_
  apply wpS_seq
  apply wpS_region
  simp [wpOpsS, go_sem, recoverD, hu, Try.ntmps50, Exit.thenS]
  refine wpS_of_wp ?_
  change Code.wp Try.prog _ _ { tmps := #[.pointer (some ⟨g0, 0, none⟩), .pointer (some ⟨g1, 0, none⟩), .pointer (some ⟨g2, 0, none⟩), .iface 92 (.int .i64 x), .iface 92 (.int .i64 x), undef, undef, undef, undef], defers := [] } _
  go_wp2_with (first
    | (go_at_call 51; (refine (caught_calls _ x).mono ?_); rintro e w' ⟨rfl, hw⟩; subst hw))
  exact ⟨rfl, _, rfl, .tuple #[], by simp [results, Try.results50], rfl, rfl, rfl⟩
def GetTo (w : World) (s : ByteArray) (at0 : Nat) (e : Ending) (w' : World) : Prop :=
  Below w.heap.size w w' ∧ (match rdGo ((byt s).drop at0) 0 0 with
    | .ok n u => e = .returned (.tuple #[.int .i64 (n : Int), .int .i64 ((at0 + u : Nat) : Int), .int .i64 0])
    | .err er => e = .returned (.tuple #[.int .i64 0, .int .i64 0, .int .i64 (er : Int)]))
set_option maxHeartbeats 4000000 in
theorem getInt_calls (w : World) (s : ByteArray) (at0 : Nat) (hs : s.size ≤ 140737488351232) (ha : at0 ≤ s.size) :
    Calls Try.prog 45 #[.string s, .int .i64 (at0 : Int)] w (GetTo w s at0) := by
  have hmf : ∀ (fn : Fn) (first cap : Array Value) (w : World), (Instr.makeFunc fn first cap).run Try.prog w = .ok (.func fn first cap) w := fun _ _ _ _ => rfl
  have a0 : (0 : Int) ≤ (at0 : Int) := by omega
  have a1 : (at0 : Int) ≤ (s.size : Int) := by omega
  go_enter_defers Try.func45, Try.ntmps45
  go_upto_region 5 with (fail)
  have HB0 : Hid (Below w.heap.size w ((((w.alloc (.cells #[.int .i64 0] 3)).alloc (.cells #[.int .i64 0] 3)).alloc (.cells #[.int .i64 0] 23)).alloc (.cells #[.string s, .int .i64 (at0 : Int)] 90))) := Lib.hid (((((Below.refl _ _).alloc (Nat.le_refl _) _).alloc (by simp) _).alloc (by simp; omega) _).alloc (by simp; omega) _)
  have B0 : Hid (Blk ((((w.alloc (.cells #[.int .i64 0] 3)).alloc (.cells #[.int .i64 0] 3)).alloc (.cells #[.int .i64 0] 23)).alloc (.cells #[.string s, .int .i64 (at0 : Int)] 90)) w.heap.size 3 #[.int .i64 0]) := Lib.hid ((((Blk.new w 3 #[.int .i64 0]).alloc _).alloc _).alloc _)
  have B1 : Hid (Blk ((((w.alloc (.cells #[.int .i64 0] 3)).alloc (.cells #[.int .i64 0] 3)).alloc (.cells #[.int .i64 0] 23)).alloc (.cells #[.string s, .int .i64 (at0 : Int)] 90)) (w.heap.size + 1) 3 #[.int .i64 0]) := Lib.hid (by
    have := (((Blk.new (w.alloc (.cells #[.int .i64 0] 3)) 3 #[.int .i64 0]).alloc (.cells #[.int .i64 0] 23)).alloc (.cells #[.string s, .int .i64 (at0 : Int)] 90))
    simpa using this)
  have B2 : Hid (Blk ((((w.alloc (.cells #[.int .i64 0] 3)).alloc (.cells #[.int .i64 0] 3)).alloc (.cells #[.int .i64 0] 23)).alloc (.cells #[.string s, .int .i64 (at0 : Int)] 90)) (w.heap.size + 1 + 1) 23 #[.int .i64 0]) := Lib.hid (by
    have := ((Blk.new ((w.alloc (.cells #[.int .i64 0] 3)).alloc (.cells #[.int .i64 0] 3)) 23 #[.int .i64 0]).alloc (.cells #[.string s, .int .i64 (at0 : Int)] 90))
    simpa using this)
  have B3 : Hid (Blk ((((w.alloc (.cells #[.int .i64 0] 3)).alloc (.cells #[.int .i64 0] 3)).alloc (.cells #[.int .i64 0] 23)).alloc (.cells #[.string s, .int .i64 (at0 : Int)] 90)) (w.heap.size + 1 + 1 + 1) 90 #[.string s, .int .i64 (at0 : Int)]) := Lib.hid (by
    have := Blk.new (((w.alloc (.cells #[.int .i64 0] 3)).alloc (.cells #[.int .i64 0] 3)).alloc (.cells #[.int .i64 0] 23)) 90 #[.string s, .int .i64 (at0 : Int)]
    simpa using this)
  obtain ⟨g, hg⟩ : ∃ g, w.heap.size = g := ⟨_, rfl⟩
  have HG := Lib.hid hg
  rw [hg] at B0 B1 B2 B3 ⊢
  clear hg
  generalize World.alloc (World.alloc (World.alloc (World.alloc w _) _) _) _ = w4 at HB0 B0 B1 B2 B3 ⊢
  have HN := Lib.hid (rnum_calls w4 (g + 1 + 1 + 1) s at0 hs ha B3.out)
  unfold NumTo at HN
  have HBl : Hid (∀ w5, Only (fun b => b = g + 1 + 1 + 1) w4 w5 → Blk w5 g 3 #[.int .i64 0] ∧ Blk w5 (g + 1) 3 #[.int .i64 0] ∧ Blk w5 (g + 1 + 1) 23 #[.int .i64 0] ∧ Below w.heap.size w w5) := Lib.hid fun w5 ho =>
    ⟨(ho.block g B0.out.lt (by show ¬ g = _; omega)).trans B0.out, (ho.block (g + 1) B1.out.lt (by show ¬ g + 1 = _; omega)).trans B1.out, (ho.block (g + 1 + 1) B2.out.lt (by show ¬ g + 1 + 1 = _; omega)).trans B2.out, HB0.out.trans (ho.below HB0.out.size fun k hk => by have := HG.out; rw [hk]; omega)⟩
  cases hrd : rdGo ((byt s).drop at0) 0 0 with
  | ok n u =>
    have HE := Lib.hid hrd
    rw [hrd] at HN
    simp only at HN
    clear hrd a0 a1
    go_upto_region 6 with (first
      | (go_at_call 52; (refine (HN.out).mono ?_); rintro e w5 ⟨ho, rfl, hb⟩; have HO := Lib.hid ho; have HB5 := Lib.hid hb; obtain ⟨b0, b1, b2, b3⟩ := HBl.out w5 ho; have C0 := Lib.hid b0; have C1 := Lib.hid b1; have C2 := Lib.hid b2; have CB := Lib.hid b3; have c0 : w5.cell? ⟨g, 0, none⟩ = some (.int .i64 0) := b0.cell 0; have f0 := b0.frozen 0; clear ho hb b0 b1 b2 b3))
    have D0 := Lib.hid (C0.out.set_ 0 (.int .i64 (n : Int)))
    have D1 := Lib.hid (C1.out.far (b := g) (j := 0) (by omega) (.int .i64 (n : Int)))
    have D2 := Lib.hid (C2.out.far (b := g) (j := 0) (by omega) (.int .i64 (n : Int)))
    have D3 := Lib.hid (HB5.out.far (b := g) (j := 0) (by omega) (.int .i64 (n : Int)))
    have DB : Hid (Below w.heap.size w (w5.setCell ⟨g, 0, none⟩ (.int .i64 (n : Int)))) := Lib.hid (CB.out.setCell (p := ⟨g, 0, none⟩) (by rw [HG.out]; exact Nat.le_refl _) _)
    clear c0 f0
    generalize World.setCell w5 _ _ = w6 at D0 D1 D2 D3 DB ⊢
    have k0 : w6.cell? ⟨g, 0, none⟩ = some (.int .i64 (n : Int)) := D0.out.cell 0
    have k1 : w6.cell? ⟨g + 1, 0, none⟩ = some (.int .i64 0) := D1.out.cell 0
    have k2 : w6.cell? ⟨g + 1 + 1, 0, none⟩ = some (.int .i64 0) := D2.out.cell 0
    have k3 : w6.cell? ⟨g + 1 + 1 + 1, 1, none⟩ = some (.int .i64 ((at0 + u : Nat) : Int)) := D3.out.cell 1
    have f0 := D0.out.frozen 0
    have f1 := D1.out.frozen 0
    have f2 := D2.out.frozen 0
    have E0 := Lib.hid (((D0.out.set_ 0 (.int .i64 (n : Int))).far (b := g + 1) (j := 0) (by omega) (.int .i64 ((at0 : Int) + (u : Int)))).far (b := g + 1 + 1) (j := 0) (by omega) (.int .i64 0)).drew
    have E1 := Lib.hid (((D1.out.far (b := g) (j := 0) (by omega) (.int .i64 (n : Int))).set_ 0 (.int .i64 ((at0 : Int) + (u : Int)))).far (b := g + 1 + 1) (j := 0) (by omega) (.int .i64 0)).drew
    have E2 := Lib.hid (((D2.out.far (b := g) (j := 0) (by omega) (.int .i64 (n : Int))).far (b := g + 1) (j := 0) (by omega) (.int .i64 ((at0 : Int) + (u : Int)))).set_ 0 (.int .i64 0)).drew
    have EB : Hid (Below w.heap.size w (((w6.setCell ⟨g, 0, none⟩ (.int .i64 (n : Int))).setCell ⟨g + 1, 0, none⟩ (.int .i64 ((at0 : Int) + (u : Int)))).setCell ⟨g + 1 + 1, 0, none⟩ (.int .i64 0)).drew) := Lib.hid ((((DB.out.setCell (p := ⟨g, 0, none⟩) (by rw [HG.out]; exact Nat.le_refl _) _).setCell (p := ⟨g + 1, 0, none⟩) (by rw [HG.out]; exact Nat.le_succ _) _).setCell (p := ⟨g + 1 + 1, 0, none⟩) (by rw [HG.out]; show g ≤ g + 1 + 1; omega) _).drew)
    go_region
    all_goals
      clear k0 k1 k2 k3 f0 f1 f2
      generalize World.drew _ = w7 at E0 E1 E2 EB ⊢
      go_wp2
      have k0 : w7.cell? ⟨g, 0, none⟩ = some (.int .i64 (n : Int)) := E0.out.cell 0
      have k1 : w7.cell? ⟨g + 1, 0, none⟩ = some (.int .i64 ((at0 : Int) + (u : Int))) := E1.out.cell 0
      have k2 : w7.cell? ⟨g + 1 + 1, 0, none⟩ = some (.int .i64 0) := E2.out.cell 0
      refine leaves_cons (f := 50) (args := #[.pointer (some ⟨g, 0, none⟩), .pointer (some ⟨g + 1, 0, none⟩), .pointer (some ⟨g + 1 + 1, 0, none⟩)]) (by simp) (by simp [go_sem]) ?_
      refine (catch_idle _ _ _ _).mono ?_
      rintro e u' w'' ⟨rfl, rfl, hw⟩
      subst hw
      simp [Leaves, settle, results, Try.results45, asAddr, go_sem, k0, k1, k2]
      refine ⟨EB.out, ?_⟩
      rw [HE.out]; rfl
  | err er =>
    have HE := Lib.hid hrd
    rw [hrd] at HN
    simp only at HN
    unfold fault at HN
    clear hrd a0 a1
    go_wp2_with (first
      | (go_at_call 52; (refine (HN.out).mono ?_); rintro e w5 ⟨ho, rfl⟩; have HO := Lib.hid ho; clear ho))
    obtain ⟨b0, b1, b2, b3⟩ := HBl.out w5 HO.out
    have CB := Lib.hid b3
    refine leaves_cons (f := 50) (args := #[.pointer (some ⟨g, 0, none⟩), .pointer (some ⟨g + 1, 0, none⟩), .pointer (some ⟨g + 1 + 1, 0, none⟩)]) (by simp) (by simp [go_sem]) ?_
    refine (catch_panicking g (g + 1) (g + 1 + 1) (by omega) (by omega) (er : Int) [] _ _ _ _ (b0.cell 0) (b1.cell 0) (b2.cell 0) (b0.frozen 0) (b1.frozen 0) (b2.frozen 0)).mono ?_
    rintro e u' w'' ⟨rfl, rfl, hw⟩
    have E0 := (((b0.set_ 0 (.int .i64 0)).far (b := g + 1) (j := 0) (by omega) (.int .i64 0)).far (b := g + 1 + 1) (j := 0) (by omega) (.int .i64 (er : Int)))
    have E1 := (((b1.far (b := g) (j := 0) (by omega) (.int .i64 0)).set_ 0 (.int .i64 0)).far (b := g + 1 + 1) (j := 0) (by omega) (.int .i64 (er : Int)))
    have E2 := (((b2.far (b := g) (j := 0) (by omega) (.int .i64 0)).far (b := g + 1) (j := 0) (by omega) (.int .i64 0)).set_ 0 (.int .i64 (er : Int)))
    have EB : Hid (Below w.heap.size w (((w5.setCell ⟨g, 0, none⟩ (.int .i64 0)).setCell ⟨g + 1, 0, none⟩ (.int .i64 0)).setCell ⟨g + 1 + 1, 0, none⟩ (.int .i64 (er : Int)))) := Lib.hid (((CB.out.setCell (p := ⟨g, 0, none⟩) (by rw [HG.out]; exact Nat.le_refl _) _).setCell (p := ⟨g + 1, 0, none⟩) (by rw [HG.out]; exact Nat.le_succ _) _).setCell (p := ⟨g + 1 + 1, 0, none⟩) (by rw [HG.out]; show g ≤ g + 1 + 1; omega) _)
    rw [← hw] at E0 E1 E2 EB
    have k0 : w''.cell? ⟨g, 0, none⟩ = some (.int .i64 0) := E0.cell 0
    have k1 : w''.cell? ⟨g + 1, 0, none⟩ = some (.int .i64 0) := E1.cell 0
    have k2 : w''.cell? ⟨g + 1 + 1, 0, none⟩ = some (.int .i64 (er : Int)) := E2.cell 0
    clear hw E0 E1 E2 b0 b1 b2 b3
    simp [Leaves, settle, results, Try.results45, asAddr, go_sem, k0, k1, k2]
    refine ⟨EB.out, ?_⟩
    rw [HE.out]
end Go.Proofs.Ytccmafmeblojpaa
