/- The reference's book: At, without, own, Cancel. -/
import Derived.Test.YtilbhnloelgpdaaGAm
import Derived.Test.YtilbhnloelgpdaaGByt
namespace Go.Proofs.Ytilbhnloelgpdaa
open Go.RowKit
set_option linter.unusedVariables false
set_option linter.unusedSimpArgs false
/-- A book of the reference as a value. -/
def rval (A : Option Addr) (c : Nat) (b : Bk) : Value := .agg #[.slice A b.l.length c, .int .i64 b.next]
theorem at_eq {L : List Ord} {id : Int} {i : Nat} (hi : i < L.length) (h : i ≤ Bk.ix L id) (e : (L.getD i ord0).id = id) : Bk.at_ L id = (i : Int) := by
  have hx : Bk.ix L id = i := by
    rcases Nat.lt_or_eq_of_le h with h | h
    · exact absurd e (Bk.ix_not h)
    · exact h.symm
  unfold Bk.at_
  rw [hx, if_pos hi]
theorem ix_step {L : List Ord} {id : Int} {i : Nat} (hi : i < L.length) (h : i ≤ Bk.ix L id) (e : (L.getD i ord0).id ≠ id) : i + 1 ≤ Bk.ix L id := by
  rcases Nat.lt_or_eq_of_le h with h | h
  · exact h
  · exfalso
    exact e (by rw [h]; exact Bk.ix_id (by omega))
set_option maxHeartbeats 4000000 in
theorem rat_calls (w : World) (A : Option Addr) (L : List Ord) (c : Nat) (nx id : Int) (h : ORow w A L) (hl : L.length ≤ 64) :
    Calls Try.prog 53 #[.agg #[.slice A L.length c, .int .i64 nx], .int .i64 id] w (Told w (.int .i64 (Bk.at_ L id))) := by
  have H := Lib.hid h
  obtain ⟨n, hn⟩ : ∃ n, Hid (L.length = n) := ⟨_, Lib.hid rfl⟩
  obtain ⟨T, hT⟩ : ∃ T, Hid (Bk.at_ L id = T) := ⟨_, Lib.hid rfl⟩
  rw [hT.out]
  rw [hn.out] at hl ⊢
  have hb0 : Hid (Below w.heap.size w (w.alloc (.cells #[.slice A n c, .int .i64 nx] 53))) := Lib.hid ((Below.refl _ _).alloc (Nat.le_refl _) _)
  have B0 := Lib.hid (Blk.new w 53 #[.slice A n c, .int .i64 nx])
  clear h
  go_enter Try.func53, Try.ntmps53
  go_upto_region 2 with (fail)
  obtain ⟨g, hg⟩ : ∃ g, Hid (w.heap.size = g) := ⟨_, Lib.hid rfl⟩
  rw [hg.out] at B0 ⊢
  generalize World.alloc w _ = wy at hb0 B0 ⊢
  have x0 : wy.cell? ⟨g, 0, none⟩ = some (.slice A n c) := B0.out.cell 0
  go_loopg [5] (n + 1) (fun gk s5 wr => wr = wy ∧ ∃ i : Nat, gk = n + 1 - i ∧ i ≤ n ∧ s5 = .int .i64 (i : Int) ∧ Hid (i ≤ Bk.ix L id))
  case atStart => exact ⟨rfl, 0, rfl, Nat.zero_le _, rfl, Lib.hid (Nat.zero_le _)⟩
  case round =>
    obtain ⟨rfl, i, rfl, hi, rfl, hix⟩ := hrel
    have i0 : (0 : Int) ≤ (i : Int) := by omega
    by_cases hil : i < n
    · have hiI : (i : Int) < (n : Int) := by omega
      have hiL : Hid (i < L.length) := Lib.hid (by rw [hn.out]; exact hil)
      obtain ⟨b, o, rfl⟩ : ∃ b o, A = some ⟨b, o, none⟩ := by
        obtain ⟨b, o, e, _⟩ := H.out.cells hiL.out
        exact ⟨b, o, e⟩
      have c0 := (ORow.six H.out hiL.out hb0.out).1
      have HM := Lib.hid (show n + 1 - (i + 1) < n + 1 - i by omega)
      have he := Lib.hid (at_eq hiL.out hix.out)
      have hs := Lib.hid (ix_step hiL.out hix.out)
      generalize (L.getD i ord0).id = q at c0 he hs
      by_cases hq : q = id
      · have hq1 : (q == id) = true := by simpa using hq
        have hE := Lib.hid (he.out hq)
        clear he hs hq
        go_wp2
        refine bodyPost_ret (by simp [results, Try.results53, asAddr, go_sem]; rfl) rfl ?_
        exact ⟨by rw [← hT.out, hE.out], hb0.out⟩
      · have hq1 : (q == id) = false := by simpa using hq
        have hS := Lib.hid (hs.out hq)
        clear he hs hq
        go_wp2
        go_roundg (n + 1 - (i + 1))
        case measure => exact HM.out
        case rel => exact ⟨rfl, i + 1, rfl, by omega, by first | rfl | go_num, hS⟩
    · obtain rfl : n = i := by omega
      have hE : Hid (Bk.at_ L id = -1) := Lib.hid (at_out (by rw [hn.out]; have := hix.out; omega))
      go_wp2
      refine bodyPost_ret (by simp [results, Try.results53, asAddr, go_sem]; rfl) rfl ?_
      exact ⟨by rw [← hT.out, hE.out], hb0.out⟩
/-- The list but the a-th, as far as i. -/
def wo (L : List Ord) (a : Int) : Nat → List Ord
  | 0 => []
  | i + 1 => wo L a i ++ (if (i : Int) = a then [] else [L.getD i ord0])
theorem wo_all (L : List Ord) : ∀ i, i ≤ L.length → wo L (-1) i = L.take i
  | 0, _ => by simp [wo]
  | i + 1, h => by
    unfold wo
    rw [wo_all L i (by omega), if_neg (by omega), Ca.take_at L (by omega)]
theorem wo_but (L : List Ord) (k : Nat) : ∀ i, i ≤ L.length → wo L (k : Int) i = (L.take i).eraseIdx k
  | 0, _ => by simp [wo]
  | i + 1, h => by
    unfold wo
    have hl : (L.take i).length = i := by rw [List.length_take]; omega
    rw [wo_but L k i (by omega), Ca.take_at L (by omega)]
    by_cases e : (i : Int) = (k : Int)
    · have e' : i = k := by omega
      subst e'
      rw [if_pos e, List.append_nil, List.eraseIdx_of_length_le (by omega), List.eraseIdx_append_of_length_le (by omega), hl, Nat.sub_self]
      simp
    · rw [if_neg e]
      by_cases h2 : k < i
      · rw [List.eraseIdx_append_of_lt_length (by omega)]
      · rw [List.eraseIdx_append_of_length_le (by omega), List.eraseIdx_of_length_le (by omega), List.eraseIdx_of_length_le (by simp [hl]; omega)]
theorem wo_few (L : List Ord) (a : Int) : ∀ i, (wo L a i).length ≤ i
  | 0 => by simp [wo]
  | i + 1 => by
    unfold wo
    have := wo_few L a i
    rw [List.length_append]
    split <;> simp <;> omega
set_option maxHeartbeats 4000000 in
theorem without_calls (w : World) (A : Option Addr) (L : List Ord) (c : Nat) (a : Int) (h : ORow w A L) (hl : L.length ≤ 64) :
    Calls Try.prog 65 #[.slice A L.length c, .int .i64 a] w fun e w' => Listed w (wo L a L.length) e w' := by
  have H := Lib.hid h
  obtain ⟨n, hn⟩ : ∃ n, Hid (L.length = n) := ⟨_, Lib.hid rfl⟩
  obtain ⟨i1, hi1, hy0, hy1, hy2⟩ := info_parts info_order
  have HI1 := Lib.hid hi1
  have HY0 := Lib.hid hy0
  have HY1 := Lib.hid hy1
  have HY2 := Lib.hid hy2
  rw [hn.out] at hl ⊢
  clear h hi1 hy0 hy1 hy2
  go_enter Try.func65, Try.ntmps65
  go_upto_region 3 with (fail)
  go_loopg [5, 6] (n + 1) (fun gk s5 s6 wr => ∃ (i : Nat) (A2 : Option Addr) (n2 c2 : Nat), gk = n + 1 - i ∧ i ≤ n ∧ s6 = .int .i64 (i : Int) ∧ s5 = .slice A2 n2 c2 ∧ Hid ((wo L a i).length = n2 ∧ n2 ≤ i) ∧ Hid (Mine w wr 6 (.slice A2 n2 c2) n2 (ocells (wo L a i))) ∧ Hid (Below w.heap.size w wr))
  case atStart => exact ⟨0, none, 0, 0, rfl, Nat.zero_le _, rfl, rfl, Lib.hid ⟨rfl, Nat.le_refl _⟩, Lib.hid (Mine.empty _ _ _ _), Lib.hid (Below.refl _ _)⟩
  case round =>
    obtain ⟨i, A2, n2, c2, rfl, hi, rfl, rfl, hn2, HM2, hb⟩ := hrel
    have i0 : (0 : Int) ≤ (i : Int) := by omega
    by_cases hil : i < n
    · have hiI : (i : Int) < (n : Int) := by omega
      have hiL : Hid (i < L.length) := Lib.hid (by rw [hn.out]; exact hil)
      obtain ⟨b, o, rfl⟩ : ∃ b o, A = some ⟨b, o, none⟩ := by
        obtain ⟨b, o, e, _⟩ := H.out.cells hiL.out
        exact ⟨b, o, e⟩
      obtain ⟨c0, c1, c2', c3, c4, c5⟩ := ORow.six H.out hiL.out hb.out
      have HM := Lib.hid (show n + 1 - (i + 1) < n + 1 - i by omega)
      have hw : Hid (wo L a (i + 1) = wo L a i ++ (if (i : Int) = a then [] else [L.getD i ord0])) := Lib.hid rfl
      generalize L.getD i ord0 = q at c0 c1 c2' c3 c4 c5 hw
      obtain ⟨qi, qo, qp, qa, qpl, qb⟩ := q
      simp only at c0 c1 c2' c3 c4 c5
      by_cases hia : (i : Int) = a
      · have hx1 : ((i : Int) != a) = false := by simpa using hia
        have hW := Lib.hid (by have := hw.out; rwa [if_pos hia, List.append_nil] at this)
        clear hw hia
        go_wp2
        go_roundg (n + 1 - (i + 1))
        case measure => exact HM.out
        case rel => exact ⟨i + 1, A2, n2, c2, rfl, by omega, by first | rfl | go_num, rfl, Lib.hid (by rw [hW.out]; have := hn2.out; omega), Lib.hid (by rw [hW.out]; exact HM2.out), hb⟩
      · have hx1 : ((i : Int) != a) = true := by simpa using hia
        have hW := Lib.hid (by have := hw.out; rwa [if_neg hia] at this)
        have hA1 : Hid (n2 + 1 ≤ maxLen) := Lib.hid (by have := hn2.out; unfold maxLen; omega)
        have hA2 : Hid ((n2 + 1) * 48 ≤ 140737488355328) := Lib.hid (by have := hn2.out; omega)
        have hS1 : Hid (∀ wz : World, Src Try.prog 6 22 (.slice (some ⟨wz.heap.size, 0, none⟩) 1 1) 1 (ocell ⟨qi, qo, qp, qa, qpl, qb⟩) (wz.alloc (.cells (ocell ⟨qi, qo, qp, qa, qpl, qb⟩).toArray 33))) := Lib.hid fun wz => src_new Try.underlying22 wz _ _ 1 1 rfl (by simp [ocell, Value.oneCell'])
        clear hw hia
        go_wp2_with (first
          | (at_builtin; (refine wpList_append_mine rfl (.tmp 16) (.tmp 21) 22 22 rfl 33 i1 (.agg #[.int .i64 0, .int .i64 0, .int .i64 0, .int .i64 0, .int .i64 0, .bool false]) 48 Try.underlying22 HI1.out HY0.out HY1.out HY2.out rfl (by decide) rfl (HM2.out.alloc _) (hb.out.alloc hb.out.size _) _ 1 (ocell ⟨qi, qo, qp, qa, qpl, qb⟩) rfl (hS1.out _) hA1.out hA2.out ?_); intro A3 c3' w3 hm3 hb3; have HM3 := Lib.hid hm3; have HB3 := Lib.hid hb3; clear hm3 hb3))
        go_roundg (n + 1 - (i + 1))
        case measure => exact HM.out
        case rel => exact ⟨i + 1, A3, n2 + 1, c3', rfl, by omega, by first | rfl | go_num, rfl, Lib.hid (by rw [hW.out, List.length_append]; have := hn2.out; simp only [List.length_cons, List.length_nil]; omega), Lib.hid (by rw [hW.out, ocells_append]; exact HM3.out), HB3⟩
    · obtain rfl : n = i := by omega
      have hfin : Hid (Listed w (wo L a n) (.returned (.slice A2 n2 c2)) wr) := Lib.hid (by
        have h1 := HM2.out
        have h2 := hn2.out.1
        subst h2
        exact ⟨A2, c2, rfl, h1, hb.out⟩)
      go_wp2
      refine bodyPost_ret (by simp [results, Try.results65, asAddr, go_sem]; rfl) rfl ?_
      exact hfin.out
theorem mine_at (b : Bk) (id owner : Int) : b.mine id owner = if Bk.at_ b.l id < 0 then (0, 3) else if (b.l.getD (Bk.ix b.l id) ord0).owner ≠ owner then (0, 80) else (Bk.at_ b.l id, 0) := by
  unfold Bk.mine
  by_cases h : Bk.ix b.l id < b.l.length
  · rw [at_in h, if_pos h, if_neg (show ¬ ((Bk.ix b.l id : Nat) : Int) < 0 by omega)]
    by_cases h2 : (b.l.getD (Bk.ix b.l id) ord0).owner = owner
    · rw [if_pos h2, if_neg (by simpa using h2)]
    · rw [if_neg h2, if_pos h2]
  · rw [if_neg h, if_pos (show Bk.at_ b.l id < 0 by unfold Bk.at_; rw [if_neg h]; decide)]
set_option maxHeartbeats 4000000 in
theorem rown_calls (w : World) (A : Option Addr) (b : Bk) (c : Nat) (id owner : Int) (h : ORow w A b.l) (hl : b.l.length ≤ 64) :
    Calls Try.prog 64 #[rval A c b, .int .i64 id, .int .i64 owner] w (Told w (.tuple #[.int .i64 (b.mine id owner).1, .int .i64 (b.mine id owner).2])) := by
  have H := Lib.hid h
  have HAt := Lib.hid (fun wx (hb : Below w.heap.size w wx) => rat_calls wx A b.l c b.next id (h.below hb) hl)
  have hM := Lib.hid (mine_at b id owner)
  obtain ⟨n, hn⟩ : ∃ n, Hid (b.l.length = n) := ⟨_, Lib.hid rfl⟩
  obtain ⟨nx, hnx⟩ : ∃ nx, Hid (b.next = nx) := ⟨_, Lib.hid rfl⟩
  obtain ⟨T, hT⟩ : ∃ T, Hid (b.mine id owner = T) := ⟨_, Lib.hid rfl⟩
  unfold rval
  rw [hT.out] at hM ⊢
  rw [hn.out, hnx.out] at HAt ⊢
  rw [hn.out] at hl
  have hb0 : Hid (Below w.heap.size w (w.alloc (.cells #[.slice A n c, .int .i64 nx] 53))) := Lib.hid ((Below.refl _ _).alloc (Nat.le_refl _) _)
  have B0 := Lib.hid (Blk.new w 53 #[.slice A n c, .int .i64 nx])
  clear h
  by_cases hx : Bk.ix b.l id < b.l.length
  · obtain ⟨i, hi⟩ : ∃ i, Hid (Bk.ix b.l id = i) := ⟨_, Lib.hid rfl⟩
    have hAt : Hid (Bk.at_ b.l id = (i : Int)) := Lib.hid (by rw [at_in hx, hi.out])
    rw [hi.out] at hx hM
    rw [hAt.out] at HAt hM
    have hiL := Lib.hid hx
    obtain ⟨bb, oo, rfl⟩ : ∃ b o, A = some ⟨b, o, none⟩ := by
      obtain ⟨b, o, e, _⟩ := H.out.cells hx
      exact ⟨b, o, e⟩
    have HC := Lib.hid (fun wx hh => (ORow.six H.out hiL.out (w' := wx) hh).2.1)
    generalize (b.l.getD i ord0).owner = qo at HC hM
    rw [hn.out] at hx
    have i0 : (0 : Int) ≤ (i : Int) := by omega
    have i1 : (i : Int) < (n : Int) := by omega
    have i2 : ¬ (i : Int) < 0 := by omega
    clear hx
    by_cases ho : qo = owner
    · have ho1 : (qo != owner) = false := by simpa using ho
      have hE := Lib.hid (by have := hM.out; rwa [if_neg i2, if_neg (by simpa using ho)] at this)
      clear hM ho
      go_enter Try.func64, Try.ntmps64
      go_upto_region 1 with (fail)
      obtain ⟨g, hg⟩ : ∃ g, Hid (w.heap.size = g) := ⟨_, Lib.hid rfl⟩
      rw [hg.out] at B0 ⊢
      generalize World.alloc w _ = wy at hb0 B0 ⊢
      obtain ⟨x0, x1⟩ : wy.cell? ⟨g, 0, none⟩ = some (.slice (some ⟨bb,oo,none⟩) n c) ∧ wy.cell? ⟨g, 1, none⟩ = some (.int .i64 nx) := ⟨B0.out.cell 0, B0.out.cell 1⟩
      go_wp2_with (go_at_call 53; (with_reducible refine (HAt.out _ hb0.out).mono ?_); rintro e w1 ⟨rfl, hh⟩; have hb1 := Lib.hid (below_next hb0.out hh); have x0 := (B0.out.below hh B0.out.lt).cell 0; simp at x0; have y0 := HC.out _ hb1.out; clear hh)
      (try simp only [Exit.inBlock, Exit.then])
      refine bodyPost_ret (by simp [results, Try.results64, asAddr, go_sem]; rfl) rfl ?_
      exact ⟨by rw [hE.out], hb1.out⟩
    · have ho1 : (qo != owner) = true := by simpa using ho
      have hE := Lib.hid (by have := hM.out; rwa [if_neg i2, if_pos (by simpa using ho)] at this)
      clear hM ho
      go_enter Try.func64, Try.ntmps64
      go_upto_region 1 with (fail)
      obtain ⟨g, hg⟩ : ∃ g, Hid (w.heap.size = g) := ⟨_, Lib.hid rfl⟩
      rw [hg.out] at B0 ⊢
      generalize World.alloc w _ = wy at hb0 B0 ⊢
      obtain ⟨x0, x1⟩ : wy.cell? ⟨g, 0, none⟩ = some (.slice (some ⟨bb,oo,none⟩) n c) ∧ wy.cell? ⟨g, 1, none⟩ = some (.int .i64 nx) := ⟨B0.out.cell 0, B0.out.cell 1⟩
      go_wp2_with (go_at_call 53; (with_reducible refine (HAt.out _ hb0.out).mono ?_); rintro e w1 ⟨rfl, hh⟩; have hb1 := Lib.hid (below_next hb0.out hh); have x0 := (B0.out.below hh B0.out.lt).cell 0; simp at x0; have y0 := HC.out _ hb1.out; clear hh)
      (try simp only [Exit.inBlock, Exit.then])
      refine bodyPost_ret (by simp [results, Try.results64, asAddr, go_sem]; rfl) rfl ?_
      exact ⟨by rw [hE.out], hb1.out⟩
  · have hAt : Hid (Bk.at_ b.l id = -1) := Lib.hid (at_out hx)
    rw [hAt.out] at HAt hM
    have hE := Lib.hid (by have := hM.out; rwa [if_pos (by decide)] at this)
    clear hM hx
    go_enter Try.func64, Try.ntmps64
    go_upto_region 1 with (fail)
    obtain ⟨g, hg⟩ : ∃ g, Hid (w.heap.size = g) := ⟨_, Lib.hid rfl⟩
    rw [hg.out] at B0 ⊢
    generalize World.alloc w _ = wy at hb0 B0 ⊢
    obtain ⟨x0, x1⟩ : wy.cell? ⟨g, 0, none⟩ = some (.slice A n c) ∧ wy.cell? ⟨g, 1, none⟩ = some (.int .i64 nx) := ⟨B0.out.cell 0, B0.out.cell 1⟩
    go_wp2_with (go_at_call 53; (with_reducible refine (HAt.out _ hb0.out).mono ?_); rintro e w1 ⟨rfl, hh⟩; have hb1 := Lib.hid (below_next hb0.out hh); clear hh)
    (try simp only [Exit.inBlock, Exit.then])
    refine bodyPost_ret (by simp [results, Try.results64, asAddr, go_sem]; rfl) rfl ?_
    exact ⟨by rw [hE.out], hb1.out⟩
end Go.Proofs.Ytilbhnloelgpdaa
