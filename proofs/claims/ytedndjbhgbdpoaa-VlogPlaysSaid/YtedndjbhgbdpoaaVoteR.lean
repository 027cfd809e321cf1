/- The contract of Vote. -/
import Derived.Test.YtedndjbhgbdpoaaVoteP
namespace Go.Proofs.Ytedndjbhgbdpoaa
open Go.RowKit
/-- A refused vote: nothing turns but boxes. -/
def Refused (w : World) (c : Int) (e : Ending) (w' : World) : Prop := e = .returned (.int .i64 c) ∧ Below w.heap.size w w'
set_option maxHeartbeats 4000000 in
theorem vote_bad {w : World} {g gm : Nat} {gv : Nat → Nat → Option Nat} {kv : Nat → Value} {l : Vl} (h : AtV w g gm gv kv l) (m : Sg) (kind view seq c1 c2 : Int) (d tx : ByteArray) (ls : Value) (hbad : m.frm < 0 ∨ l.n ≤ m.frm ∨ (kind ≠ 3 ∧ kind ≠ 4)) :
    Calls Try.prog 37 #[.pointer (some ⟨g, 0, none⟩), .agg #[.int .i64 m.frm, .string m.body, .string m.sig], .agg #[.int .i64 kind, .int .i64 view, .int .i64 seq, .int .i64 c1, .int .i64 c2, .string d, .string tx, ls]] w fun e w' => e = .returned (.int .i64 1) ∧ Below w.heap.size w w' := by
  obtain ⟨fr, bo, si⟩ := m
  obtain ⟨a1, a2, a3, a4⟩ := boxed h #[.int .i64 fr, .string bo, .string si] #[.int .i64 kind, .int .i64 view, .int .i64 seq, .int .i64 c1, .int .i64 c2, .string d, .string tx, ls] 48 46
  have hA := Lib.hid a1
  have hM := Lib.hid a2
  have hB := Lib.hid a3
  have hBl := Lib.hid a4
  clear a1 a2 a3 a4
  by_cases x1 : fr < 0
  · have y1 : decide (fr < 0) = true := by simpa using x1
    clear hbad
    go_enter Try.func37, Try.ntmps37
    go_upto_region 1 with (fail)
    generalize w.heap.size = gb at hM hB ⊢
    generalize World.alloc (World.alloc w _) _ = w2 at hA hM hB hBl ⊢
    have m0 : w2.cell? ⟨gb, 0, none⟩ = some (.int .i64 fr) := hM.out.cell 0
    have m1 : w2.cell? ⟨gb, 1, none⟩ = some (.string bo) := hM.out.cell 1
    have m2 : w2.cell? ⟨gb, 2, none⟩ = some (.string si) := hM.out.cell 2
    have b0 : w2.cell? ⟨gb + 1, 0, none⟩ = some (.int .i64 kind) := hB.out.cell 0
    have b1 : w2.cell? ⟨gb + 1, 1, none⟩ = some (.int .i64 view) := hB.out.cell 1
    have b2 : w2.cell? ⟨gb + 1, 2, none⟩ = some (.int .i64 seq) := hB.out.cell 2
    have b5 : w2.cell? ⟨gb + 1, 5, none⟩ = some (.string d) := hB.out.cell 5
    obtain ⟨n0, n1, n2, n3⟩ := hA.out.head
    clear n0 n1 n2 n3
    go_quiet (fail)
    go_wp2
    go_ret
    exact ⟨rfl, below_draw hBl.out _⟩
  · have y1 : decide (fr < 0) = false := by simpa using x1
    by_cases x2 : l.n ≤ fr
    · have hn : Hid (∃ n, l.n = n) := Lib.hid ⟨_, rfl⟩
      clear hbad
      go_enter Try.func37, Try.ntmps37
      go_upto_region 1 with (fail)
      generalize w.heap.size = gb at hM hB ⊢
      generalize World.alloc (World.alloc w _) _ = w2 at hA hM hB hBl ⊢
      have m0 : w2.cell? ⟨gb, 0, none⟩ = some (.int .i64 fr) := hM.out.cell 0
      have m1 : w2.cell? ⟨gb, 1, none⟩ = some (.string bo) := hM.out.cell 1
      have m2 : w2.cell? ⟨gb, 2, none⟩ = some (.string si) := hM.out.cell 2
      have b0 : w2.cell? ⟨gb + 1, 0, none⟩ = some (.int .i64 kind) := hB.out.cell 0
      have b1 : w2.cell? ⟨gb + 1, 1, none⟩ = some (.int .i64 view) := hB.out.cell 1
      have b2 : w2.cell? ⟨gb + 1, 2, none⟩ = some (.int .i64 seq) := hB.out.cell 2
      have b5 : w2.cell? ⟨gb + 1, 5, none⟩ = some (.string d) := hB.out.cell 5
      obtain ⟨n0, n1, n2, n3⟩ := hA.out.head
      obtain ⟨n, hn⟩ := hn.out
      rw [hn] at n0 x2
      have y2 : decide (n ≤ fr) = true := by simpa using x2
      clear hn n1 n2 n3
      go_quiet (fail)
      go_wp2
      go_ret
      exact ⟨rfl, below_draw hBl.out _⟩
    · obtain ⟨x3, x4⟩ : kind ≠ 3 ∧ kind ≠ 4 := by
        rcases hbad with h1 | h1 | h1
        · exact absurd h1 x1
        · exact absurd h1 x2
        · exact h1
      have hn : Hid (∃ n, l.n = n) := Lib.hid ⟨_, rfl⟩
      have y3 : (kind != 3) = true := by simpa using x3
      have y4 : (kind != 4) = true := by simpa using x4
      clear hbad
      go_enter Try.func37, Try.ntmps37
      go_upto_region 1 with (fail)
      generalize w.heap.size = gb at hM hB ⊢
      generalize World.alloc (World.alloc w _) _ = w2 at hA hM hB hBl ⊢
      have m0 : w2.cell? ⟨gb, 0, none⟩ = some (.int .i64 fr) := hM.out.cell 0
      have m1 : w2.cell? ⟨gb, 1, none⟩ = some (.string bo) := hM.out.cell 1
      have m2 : w2.cell? ⟨gb, 2, none⟩ = some (.string si) := hM.out.cell 2
      have b0 : w2.cell? ⟨gb + 1, 0, none⟩ = some (.int .i64 kind) := hB.out.cell 0
      have b1 : w2.cell? ⟨gb + 1, 1, none⟩ = some (.int .i64 view) := hB.out.cell 1
      have b2 : w2.cell? ⟨gb + 1, 2, none⟩ = some (.int .i64 seq) := hB.out.cell 2
      have b5 : w2.cell? ⟨gb + 1, 5, none⟩ = some (.string d) := hB.out.cell 5
      obtain ⟨n0, n1, n2, n3⟩ := hA.out.head
      obtain ⟨n, hn⟩ := hn.out
      rw [hn] at n0 x2
      have y2 : decide (n ≤ fr) = false := by simpa using x2
      clear hn n1 n2 n3
      go_quiet (fail)
      go_wp2
      go_ret
      exact ⟨rfl, below_draw hBl.out _⟩
set_option maxHeartbeats 4000000 in
theorem vote_out3 {w : World} {g gm : Nat} {gv : Nat → Nat → Option Nat} {kv : Nat → Value} {l : Vl} (h : AtV w g gm gv kv l) (m : Sg) (view seq c1 c2 : Int) (d tx : ByteArray) (ls : Value) (h0 : 0 ≤ m.frm) (hn : m.frm < l.n) (hout : view ≠ l.view ∨ ¬ l.within seq) :
    Calls Try.prog 37 #[.pointer (some ⟨g, 0, none⟩), .agg #[.int .i64 m.frm, .string m.body, .string m.sig], .agg #[.int .i64 3, .int .i64 view, .int .i64 seq, .int .i64 c1, .int .i64 c2, .string d, .string tx, ls]] w fun e w' => e = .returned (.int .i64 100) ∧ Below w.heap.size w w' := by
  have HW := Lib.hid (fun wx (hx : AtV wx g gm gv kv l) => within_calls hx seq)
  obtain ⟨fr, bo, si⟩ := m
  obtain ⟨a1, a2, a3, a4⟩ := boxed h #[.int .i64 fr, .string bo, .string si] #[.int .i64 3, .int .i64 view, .int .i64 seq, .int .i64 c1, .int .i64 c2, .string d, .string tx, ls] 48 46
  have hA := Lib.hid a1
  have hM := Lib.hid a2
  have hB := Lib.hid a3
  have hBl := Lib.hid a4
  clear a1 a2 a3 a4
  have HN := Lib.hid hn
  have HO := Lib.hid hout
  obtain ⟨n, hnn⟩ : ∃ n, Hid (l.n = n) := ⟨_, Lib.hid rfl⟩
  obtain ⟨vw, hvw⟩ : ∃ n, Hid (l.view = n) := ⟨_, Lib.hid rfl⟩
  have y1 : decide (fr < 0) = false := by simpa using h0
  have y2 : decide (n ≤ fr) = false := by rw [← hnn.out]; simpa using hn
  clear hn hout h
  by_cases hv : view = vw
  · have hw : ¬ l.within seq := HO.out.elim (fun h1 => absurd (by rw [hvw.out]; exact hv) h1) id
    rw [decide_eq_false hw] at HW
    clear hw
    subst hv
    go_enter Try.func37, Try.ntmps37
    go_upto_region 1 with (fail)
    generalize w.heap.size = gb at hM hB ⊢
    generalize World.alloc (World.alloc w _) _ = w2 at hA hM hB hBl ⊢
    have m0 : w2.cell? ⟨gb, 0, none⟩ = some (.int .i64 fr) := hM.out.cell 0
    have m1 : w2.cell? ⟨gb, 1, none⟩ = some (.string bo) := hM.out.cell 1
    have m2 : w2.cell? ⟨gb, 2, none⟩ = some (.string si) := hM.out.cell 2
    have b0 : w2.cell? ⟨gb + 1, 0, none⟩ = some (.int .i64 3) := hB.out.cell 0
    have b1 : w2.cell? ⟨gb + 1, 1, none⟩ = some (.int .i64 view) := hB.out.cell 1
    have b2 : w2.cell? ⟨gb + 1, 2, none⟩ = some (.int .i64 seq) := hB.out.cell 2
    have b5 : w2.cell? ⟨gb + 1, 5, none⟩ = some (.string d) := hB.out.cell 5
    obtain ⟨n0, n1, n2, n3⟩ := hA.out.head
    rw [hnn.out] at n0
    rw [hvw.out] at n1
    clear n2 n3
    go_quiet (fail)
    go_upto_region 3 with (fail)
    go_quiet ((go_at_call 34; (with_reducible refine (HW.out _ (hA.out.drewN _)).mono ?_); rintro e w' ⟨rfl, rfl⟩; exact ⟨rfl, _, rfl⟩))
    go_wp2
    go_ret
    exact ⟨rfl, below_draw hBl.out _⟩
  · have y3 : (view != vw) = true := by simpa using hv
    go_enter Try.func37, Try.ntmps37
    go_upto_region 1 with (fail)
    generalize w.heap.size = gb at hM hB ⊢
    generalize World.alloc (World.alloc w _) _ = w2 at hA hM hB hBl ⊢
    have m0 : w2.cell? ⟨gb, 0, none⟩ = some (.int .i64 fr) := hM.out.cell 0
    have m1 : w2.cell? ⟨gb, 1, none⟩ = some (.string bo) := hM.out.cell 1
    have m2 : w2.cell? ⟨gb, 2, none⟩ = some (.string si) := hM.out.cell 2
    have b0 : w2.cell? ⟨gb + 1, 0, none⟩ = some (.int .i64 3) := hB.out.cell 0
    have b1 : w2.cell? ⟨gb + 1, 1, none⟩ = some (.int .i64 view) := hB.out.cell 1
    have b2 : w2.cell? ⟨gb + 1, 2, none⟩ = some (.int .i64 seq) := hB.out.cell 2
    have b5 : w2.cell? ⟨gb + 1, 5, none⟩ = some (.string d) := hB.out.cell 5
    obtain ⟨n0, n1, n2, n3⟩ := hA.out.head
    rw [hnn.out] at n0
    rw [hvw.out] at n1
    clear n2 n3
    go_quiet (fail)
    go_upto_region 3 with (fail)
    go_quiet ((go_at_call 34; (with_reducible refine (HW.out _ (hA.out.drewN _)).mono ?_); rintro e w' ⟨rfl, rfl⟩; exact ⟨rfl, _, rfl⟩))
    go_wp2
    go_ret
    exact ⟨rfl, below_draw hBl.out _⟩
set_option maxHeartbeats 4000000 in
theorem vote_out4 {w : World} {g gm : Nat} {gv : Nat → Nat → Option Nat} {kv : Nat → Value} {l : Vl} (h : AtV w g gm gv kv l) (m : Sg) (view seq c1 c2 : Int) (d tx : ByteArray) (ls : Value) (h0 : 0 ≤ m.frm) (hn : m.frm < l.n) (hout : view ≠ l.view ∨ ¬ l.within seq) :
    Calls Try.prog 37 #[.pointer (some ⟨g, 0, none⟩), .agg #[.int .i64 m.frm, .string m.body, .string m.sig], .agg #[.int .i64 4, .int .i64 view, .int .i64 seq, .int .i64 c1, .int .i64 c2, .string d, .string tx, ls]] w fun e w' => e = .returned (.int .i64 100) ∧ Below w.heap.size w w' := by
  have HW := Lib.hid (fun wx (hx : AtV wx g gm gv kv l) => within_calls hx seq)
  obtain ⟨fr, bo, si⟩ := m
  obtain ⟨a1, a2, a3, a4⟩ := boxed h #[.int .i64 fr, .string bo, .string si] #[.int .i64 4, .int .i64 view, .int .i64 seq, .int .i64 c1, .int .i64 c2, .string d, .string tx, ls] 48 46
  have hA := Lib.hid a1
  have hM := Lib.hid a2
  have hB := Lib.hid a3
  have hBl := Lib.hid a4
  clear a1 a2 a3 a4
  have HN := Lib.hid hn
  have HO := Lib.hid hout
  obtain ⟨n, hnn⟩ : ∃ n, Hid (l.n = n) := ⟨_, Lib.hid rfl⟩
  obtain ⟨vw, hvw⟩ : ∃ n, Hid (l.view = n) := ⟨_, Lib.hid rfl⟩
  have y1 : decide (fr < 0) = false := by simpa using h0
  have y2 : decide (n ≤ fr) = false := by rw [← hnn.out]; simpa using hn
  clear hn hout h
  by_cases hv : view = vw
  · have hw : ¬ l.within seq := HO.out.elim (fun h1 => absurd (by rw [hvw.out]; exact hv) h1) id
    rw [decide_eq_false hw] at HW
    clear hw
    subst hv
    go_enter Try.func37, Try.ntmps37
    go_upto_region 1 with (fail)
    generalize w.heap.size = gb at hM hB ⊢
    generalize World.alloc (World.alloc w _) _ = w2 at hA hM hB hBl ⊢
    have m0 : w2.cell? ⟨gb, 0, none⟩ = some (.int .i64 fr) := hM.out.cell 0
    have m1 : w2.cell? ⟨gb, 1, none⟩ = some (.string bo) := hM.out.cell 1
    have m2 : w2.cell? ⟨gb, 2, none⟩ = some (.string si) := hM.out.cell 2
    have b0 : w2.cell? ⟨gb + 1, 0, none⟩ = some (.int .i64 4) := hB.out.cell 0
    have b1 : w2.cell? ⟨gb + 1, 1, none⟩ = some (.int .i64 view) := hB.out.cell 1
    have b2 : w2.cell? ⟨gb + 1, 2, none⟩ = some (.int .i64 seq) := hB.out.cell 2
    have b5 : w2.cell? ⟨gb + 1, 5, none⟩ = some (.string d) := hB.out.cell 5
    obtain ⟨n0, n1, n2, n3⟩ := hA.out.head
    rw [hnn.out] at n0
    rw [hvw.out] at n1
    clear n2 n3
    go_quiet (fail)
    go_upto_region 3 with (fail)
    go_quiet ((go_at_call 34; (with_reducible refine (HW.out _ (hA.out.drewN _)).mono ?_); rintro e w' ⟨rfl, rfl⟩; exact ⟨rfl, _, rfl⟩))
    go_wp2
    go_ret
    exact ⟨rfl, below_draw hBl.out _⟩
  · have y3 : (view != vw) = true := by simpa using hv
    go_enter Try.func37, Try.ntmps37
    go_upto_region 1 with (fail)
    generalize w.heap.size = gb at hM hB ⊢
    generalize World.alloc (World.alloc w _) _ = w2 at hA hM hB hBl ⊢
    have m0 : w2.cell? ⟨gb, 0, none⟩ = some (.int .i64 fr) := hM.out.cell 0
    have m1 : w2.cell? ⟨gb, 1, none⟩ = some (.string bo) := hM.out.cell 1
    have m2 : w2.cell? ⟨gb, 2, none⟩ = some (.string si) := hM.out.cell 2
    have b0 : w2.cell? ⟨gb + 1, 0, none⟩ = some (.int .i64 4) := hB.out.cell 0
    have b1 : w2.cell? ⟨gb + 1, 1, none⟩ = some (.int .i64 view) := hB.out.cell 1
    have b2 : w2.cell? ⟨gb + 1, 2, none⟩ = some (.int .i64 seq) := hB.out.cell 2
    have b5 : w2.cell? ⟨gb + 1, 5, none⟩ = some (.string d) := hB.out.cell 5
    obtain ⟨n0, n1, n2, n3⟩ := hA.out.head
    rw [hnn.out] at n0
    rw [hvw.out] at n1
    clear n2 n3
    go_quiet (fail)
    go_upto_region 3 with (fail)
    go_quiet ((go_at_call 34; (with_reducible refine (HW.out _ (hA.out.drewN _)).mono ?_); rintro e w' ⟨rfl, rfl⟩; exact ⟨rfl, _, rfl⟩))
    go_wp2
    go_ret
    exact ⟨rfl, below_draw hBl.out _⟩
end Go.Proofs.Ytedndjbhgbdpoaa
