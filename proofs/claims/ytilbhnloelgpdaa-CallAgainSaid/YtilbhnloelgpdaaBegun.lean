/- begun: a book behind some calls. -/
import Derived.Test.YtilbhnloelgpdaaSActs
import Derived.Test.YtilbhnloelgpdaaAwake
namespace Go.Proofs.Ytilbhnloelgpdaa
open Go.RowKit
set_option linter.unusedVariables false
set_option linter.unusedSimpArgs false
namespace Bk
/-- A call, by its kind. -/
def act (b : Bk) (a : SAct) : Bk :=
  if arnd a.kind 5 = 2 then (b.amend a.o.id a.o.owner a.o.price a.o.amount).1
  else if arnd a.kind 5 = 3 then (b.cancel a.o.id a.o.owner).1
  else if arnd a.kind 5 = 4 then b.clear.1
  else (b.put a.o).1
def runTo (L : List SAct) (i : Nat) : Bk := (L.take i).foldl act fresh
def run (L : List SAct) : Bk := runTo L 100
theorem runTo_zero (L : List SAct) : runTo L 0 = fresh := by unfold runTo; rw [List.take_zero]; rfl
theorem runTo_next (L : List SAct) {i : Nat} (h : i < L.length) : runTo L (i + 1) = (runTo L i).act (L.getD i sact0) := by
  unfold runTo
  rw [List.take_succ_eq_append_getElem h, List.foldl_append, List.getD_eq_getElem?_getD, List.getElem?_eq_getElem h]; rfl
theorem runTo_all (L : List SAct) {i : Nat} (h : L.length ≤ i) (hi : i ≤ 100) : runTo L i = run L := by
  unfold run runTo
  rw [List.take_of_length_le h, List.take_of_length_le (by omega)]
theorem act_ok {b : Bk} (h : b.Ok) (a : SAct) : (b.act a).Ok := by
  unfold act
  split
  · exact amend_ok h _ _ _ _
  · split
    · exact cancel_ok h _ _
    · split
      · exact clear_ok h
      · exact put_ok h _
theorem run_ok (L : List SAct) : (run L).Ok := by
  have : ∀ (l : List SAct) (b : Bk), b.Ok → (l.foldl act b).Ok := fun l => by
    induction l with
    | nil => intro b h; exact h
    | cons a l ih => intro b h; exact ih _ (act_ok h a)
  exact this _ _ fresh_ok
end Bk
def Begins (w : World) (b : Bk) (e : Ending) (w' : World) : Prop := ∃ g, e = .returned (.pointer (some ⟨g, 0, none⟩)) ∧ Bw w w' g b
set_option maxHeartbeats 8000000 in
set_option maxRecDepth 100000 in
theorem begun_calls (w : World) (A : Option Addr) (L : List SAct) (c : Nat) (h : SRow w A L) (hl : L.length ≤ 9223372036854775807) :
    Calls Try.prog 22 #[.slice A L.length c] w (Begins w (Bk.run L)) := by
  have H := Lib.hid h
  have HNw := Lib.hid (Bw.new w)
  have hz := Lib.hid (Bk.runTo_zero L)
  obtain ⟨n, hn⟩ : ∃ n, Hid (L.length = n) := ⟨_, Lib.hid rfl⟩
  obtain ⟨m, hm⟩ : ∃ m, Hid (m = min n 100) := ⟨_, Lib.hid rfl⟩
  have hE : Hid (Bk.runTo L m = Bk.run L) := Lib.hid (by
    rw [hm.out]
    by_cases hh : n ≤ 100
    · rw [Nat.min_eq_left hh]; exact Bk.runTo_all L (by rw [hn.out]; exact Nat.le_refl _) hh
    · rw [Nat.min_eq_right (by omega)]; rfl)
  rw [hn.out] at hl ⊢
  clear h
  go_enter Try.func22, Try.ntmps22
  go_upto_region 3 with (go_at_call 28; (with_reducible refine HNw.out.mono ?_); rintro e w1 ⟨g, rfl, hh⟩; have HB1 := Lib.hid hh; clear hh)
  go_loopg [4] (m + 1) (fun gk s4 wr => ∃ i : Nat, gk = m + 1 - i ∧ i ≤ m ∧ s4 = .int .i64 (i : Int) ∧ Hid (Bw w wr g (Bk.runTo L i)))
  case atStart => exact ⟨0, rfl, Nat.zero_le _, rfl, by rw [hz.out]; exact HB1⟩
  case round =>
    clear HB1
    obtain ⟨i, rfl, hi, rfl, HB⟩ := hrel
    have i0 : (0 : Int) ≤ (i : Int) := by omega
    by_cases him : i < m
    · have hin : i < n := by have := hm.out; omega
      have hiI : (i : Int) < (n : Int) := by omega
      have hi1 : (i : Int) < 100 := by have := hm.out; omega
      have hiL : Hid (i < L.length) := Lib.hid (by rw [hn.out]; exact hin)
      obtain ⟨b, o, rfl⟩ : ∃ b o, A = some ⟨b, o, none⟩ := by
        obtain ⟨b, o, e, _⟩ := H.out.cells hiL.out
        exact ⟨b, o, e⟩
      obtain ⟨c0, c1, c2, c3, c4, c5, c6⟩ := SRow.seven H.out hiL.out HB.out.all
      have hNx := Lib.hid (Bk.runTo_next L hiL.out)
      generalize Bk.runTo L i = B at HB hNx
      have HM := Lib.hid (show m + 1 - (i + 1) < m + 1 - i by omega)
      generalize L.getD i sact0 = a at c0 c1 c2 c3 c4 c5 c6 hNx
      obtain ⟨k, qi, qo, qp, qa, qpl, qb⟩ := a
      simp only at c0 c1 c2 c3 c4 c5 c6
      go_upto_region 6 with (fail)
      have hbx : Hid (Below wr.heap.size wr (wr.alloc (.cells #[.int .i64 k, .int .i64 qi, .int .i64 qo, .int .i64 qp, .int .i64 qa, .int .i64 qpl, .bool qb] 57))) := Lib.hid ((Below.refl _ _).alloc (Nat.le_refl _) _)
      have BA := Lib.hid (Blk.new wr 57 #[.int .i64 k, .int .i64 qi, .int .i64 qo, .int .i64 qp, .int .i64 qa, .int .i64 qpl, .bool qb])
      obtain ⟨g1, hg1⟩ : ∃ g1, Hid (wr.heap.size = g1) := ⟨_, Lib.hid rfl⟩
      rw [hg1.out] at BA ⊢
      clear c0 c1 c2 c3 c4 c5 c6
      generalize World.alloc wr _ = wx at hbx BA ⊢
      have HBx := Lib.hid (HB.out.below hbx.out)
      have hbw := Lib.hid (below_next HB.out.all hbx.out)
      obtain ⟨c0, c1, c2, c3, c4, c5, c6⟩ : wx.cell? ⟨g1, 0, none⟩ = some (.int .i64 k) ∧ wx.cell? ⟨g1, 1, none⟩ = some (.int .i64 qi) ∧ wx.cell? ⟨g1, 2, none⟩ = some (.int .i64 qo) ∧ wx.cell? ⟨g1, 3, none⟩ = some (.int .i64 qp) ∧ wx.cell? ⟨g1, 4, none⟩ = some (.int .i64 qa) ∧ wx.cell? ⟨g1, 5, none⟩ = some (.int .i64 qpl) ∧ wx.cell? ⟨g1, 6, none⟩ = some (.bool qb) := ⟨BA.out.cell 0, BA.out.cell 1, BA.out.cell 2, BA.out.cell 3, BA.out.cell 4, BA.out.cell 5, BA.out.cell 6⟩
      have HAr := Lib.hid (fun w => around5 k w)
      have hk5' := arnd_lt k (below := 5) (by decide)
      rcases (show arnd k 5 = 0 ∨ arnd k 5 = 1 ∨ arnd k 5 = 2 ∨ arnd k 5 = 3 ∨ arnd k 5 = 4 by omega) with hk5 | hk5 | hk5 | hk5 | hk5 <;> rw [hk5] at HAr <;> clear hk5'
      ·
        have hN := hNx.out
        unfold Bk.act at hN
        rw [if_neg (by rw [hk5]; decide), if_neg (by rw [hk5]; decide), if_neg (by rw [hk5]; decide)] at hN
        have HN := Lib.hid hN
        have HPt := Lib.hid (HBx.out.put ⟨qi, qo, qp, qa, qpl, qb⟩)
        unfold oval at HPt
        simp only at HPt
        clear hN hNx hk5
        go_wp2_with (first
          | (go_at_call 41; (with_reducible refine (HAr.out _).mono ?_); rintro e w2 ⟨rfl, rfl⟩)
          | (go_at_call 32; (with_reducible refine HPt.out.mono ?_); rintro e w3 ⟨rfl, hh⟩; have HB3 := Lib.hid hh; clear hh))
        go_roundg (m + 1 - (i + 1))
        case measure => exact HM.out
        case rel => exact ⟨i + 1, rfl, by omega, by first | rfl | go_num, by rw [HN.out]; exact HB3⟩
      ·
        have hN := hNx.out
        unfold Bk.act at hN
        rw [if_neg (by rw [hk5]; decide), if_neg (by rw [hk5]; decide), if_neg (by rw [hk5]; decide)] at hN
        have HN := Lib.hid hN
        have HPt := Lib.hid (HBx.out.put ⟨qi, qo, qp, qa, qpl, qb⟩)
        unfold oval at HPt
        simp only at HPt
        clear hN hNx hk5
        go_wp2_with (first
          | (go_at_call 41; (with_reducible refine (HAr.out _).mono ?_); rintro e w2 ⟨rfl, rfl⟩)
          | (go_at_call 32; (with_reducible refine HPt.out.mono ?_); rintro e w3 ⟨rfl, hh⟩; have HB3 := Lib.hid hh; clear hh))
        go_roundg (m + 1 - (i + 1))
        case measure => exact HM.out
        case rel => exact ⟨i + 1, rfl, by omega, by first | rfl | go_num, by rw [HN.out]; exact HB3⟩
      · have hN := hNx.out
        unfold Bk.act at hN
        rw [if_pos hk5] at hN
        have HN := Lib.hid hN
        have HPt := Lib.hid (HBx.out.amend qi qo qp qa)
        simp only at HN
        clear hN hNx hk5
        go_wp2_with (first
          | (go_at_call 41; (with_reducible refine (HAr.out _).mono ?_); rintro e w2 ⟨rfl, rfl⟩)
          | (go_at_call 27; (with_reducible refine HPt.out.mono ?_); rintro e w3 ⟨rfl, hh⟩; have HB3 := Lib.hid hh; clear hh))
        go_roundg (m + 1 - (i + 1))
        case measure => exact HM.out
        case rel => exact ⟨i + 1, rfl, by omega, by first | rfl | go_num, by rw [HN.out]; exact HB3⟩
      · have hN := hNx.out
        unfold Bk.act at hN
        rw [if_neg (by rw [hk5]; decide), if_pos hk5] at hN
        have HN := Lib.hid hN
        have HPt := Lib.hid (HBx.out.cancel qi qo)
        simp only at HN
        clear hN hNx hk5
        go_wp2_with (first
          | (go_at_call 41; (with_reducible refine (HAr.out _).mono ?_); rintro e w2 ⟨rfl, rfl⟩)
          | (go_at_call 33; (with_reducible refine HPt.out.mono ?_); rintro e w3 ⟨rfl, hh⟩; have HB3 := Lib.hid hh; clear hh))
        go_roundg (m + 1 - (i + 1))
        case measure => exact HM.out
        case rel => exact ⟨i + 1, rfl, by omega, by first | rfl | go_num, by rw [HN.out]; exact HB3⟩
      · have hN := hNx.out
        unfold Bk.act at hN
        rw [if_neg (by rw [hk5]; decide), if_neg (by rw [hk5]; decide), if_pos hk5] at hN
        have HN := Lib.hid hN
        have HPt := Lib.hid HBx.out.clear
        clear hN hNx hk5
        go_wp2_with (first
          | (go_at_call 41; (with_reducible refine (HAr.out _).mono ?_); rintro e w2 ⟨rfl, rfl⟩)
          | (go_at_call 24; (with_reducible refine HPt.out.mono ?_); rintro e w3 ⟨A3, c3', rfl, _, hh⟩; have HB3 := Lib.hid hh; clear hh))
        go_roundg (m + 1 - (i + 1))
        case measure => exact HM.out
        case rel => exact ⟨i + 1, rfl, by omega, by first | rfl | go_num, by rw [HN.out]; exact HB3⟩
    · have hfin : Hid (Begins w (Bk.run L) (.returned (.pointer (some ⟨g, 0, none⟩))) wr) := Lib.hid (by
        obtain rfl : m = i := by omega
        rw [← hE.out]; exact ⟨g, rfl, HB.out⟩)
      by_cases hin : i < n
      · have hiI : (i : Int) < (n : Int) := by omega
        have hi1 : ¬ (i : Int) < 100 := by have := hm.out; omega
        go_wp2
        refine bodyPost_ret (by simp [results, Try.results22, asAddr, go_sem]; rfl) rfl ?_
        exact hfin.out
      · have hiI : ¬ (i : Int) < (n : Int) := by omega
        go_wp2
        refine bodyPost_ret (by simp [results, Try.results22, asAddr, go_sem]; rfl) rfl ?_
        exact hfin.out
end Go.Proofs.Ytilbhnloelgpdaa
