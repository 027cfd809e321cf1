/- The contract of Bytes: a book's numbers, each as its bytes. -/
import Derived.Test.YtilbhnloelgpdaaPut
import Derived.StillTailTactics
namespace Go.Proofs.Ytilbhnloelgpdaa
open Go.RowKit
set_option linter.unusedVariables false
set_option linter.unusedSimpArgs false
def catN (L : List Int) : ByteArray := L.foldl (fun s n => s ++ strOf (num n.toNat)) ⟨#[]⟩
theorem catN_snoc (L : List Int) (n : Int) : catN (L ++ [n]) = catN L ++ strOf (num n.toNat) := by
  unfold catN; rw [List.foldl_append]; rfl
theorem strOf_size (n : Nat) (h : n ≤ 9007199254740992) : (strOf (num n)).size ≤ 8 := by
  have := num_length 7 n (by omega)
  unfold strOf strOfNums
  simp [ByteArray.size]
  omega
theorem foldN_size : ∀ (L : List Int) (s : ByteArray), (∀ n ∈ L, 0 ≤ n ∧ n ≤ 9007199254740992) → (L.foldl (fun s n => s ++ strOf (num n.toNat)) s).size ≤ s.size + 8 * L.length
  | [], s, _ => by simp
  | n :: L, s, h => by
    rw [List.foldl_cons, List.length_cons]
    have h1 := foldN_size L (s ++ strOf (num n.toNat)) fun m hm => h m (List.mem_cons_of_mem _ hm)
    have h2 := strOf_size n.toNat (by have := h n (List.mem_cons_self ..); omega)
    rw [ByteArray.size_append] at h1
    omega
theorem catN_size (L : List Int) (h : ∀ n ∈ L, 0 ≤ n ∧ n ≤ 9007199254740992) : (catN L).size ≤ 8 * L.length := by
  have := foldN_size L ⟨#[]⟩ h
  have e : (⟨#[]⟩ : ByteArray).size = 0 := rfl
  unfold catN
  omega
/-- The numbers of an order. -/
def onum (o : Ord) : List Int := [o.id, o.owner, if o.buys = true then 0 else 1, o.price, o.amount, o.place]
namespace Bk
/-- The numbers that are laid. -/
def laid (b : Bk) : List Int := [b.next, (b.l.length : Int)] ++ b.l.flatMap onum
def bytes (b : Bk) : ByteArray := catN b.laid
end Bk
theorem onums_length (l : List Ord) : (l.flatMap onum).length = 6 * l.length := by
  induction l with
  | nil => rfl
  | cons p l ih => rw [List.flatMap_cons, List.length_append, ih, List.length_cons]; simp [onum]; omega
theorem laid_length (b : Bk) : b.laid.length = 2 + 6 * b.l.length := by
  unfold Bk.laid
  rw [List.length_append, onums_length]; rfl
theorem onum_bound {o : Ord} (h : o.right = true) (hp : 0 < o.place ∧ o.place < 9007199254740992) : ∀ n ∈ onum o, 0 ≤ n ∧ n ≤ 9007199254740992 := fun n hn => by
  have := (Ord.right_iff o).1 h
  unfold onum at hn
  simp only [List.mem_cons, List.not_mem_nil, or_false] at hn
  rcases hn with rfl | rfl | rfl | rfl | rfl | rfl
  · omega
  · omega
  · split <;> omega
  · omega
  · omega
  · omega
theorem laid_bound {b : Bk} (h : b.Ok) : ∀ n ∈ b.laid, 0 ≤ n ∧ n ≤ 9007199254740992 := fun n hn => by
  unfold Bk.laid at hn
  have h1 := h.next0
  have h2 := h.next1
  have h3 := h.few
  rcases List.mem_append.1 hn with hn | hn
  · simp only [List.mem_cons, List.not_mem_nil, or_false] at hn
    rcases hn with rfl | rfl <;> omega
  · obtain ⟨o, ho, hn⟩ := List.mem_flatMap.1 hn
    have := h.span o ho
    exact onum_bound (h.right o ho) (by omega) n hn
set_option maxHeartbeats 8000000 in
set_option maxRecDepth 100000 in
theorem bytes_calls (w : World) (g : Nat) (gl : Option Nat) (b : Bk) (h : AtB w g gl b) :
    Calls Try.prog 31 #[.pointer (some ⟨g, 0, none⟩)] w fun e w' => e = .returned (.string b.bytes) ∧ Below w.heap.size w w' := by
  have hok := Lib.hid h.ok
  have hfew := h.ok.few
  obtain ⟨A0, c0', hB, hO⟩ := h.box
  have HB := Lib.hid hB
  have HO := Lib.hid (hO.orow rfl).2.2
  obtain ⟨n, hn⟩ : ∃ n, Hid (b.l.length = n) := ⟨_, Lib.hid rfl⟩
  obtain ⟨nx, hnx⟩ : ∃ nx, Hid (b.next = nx) := ⟨_, Lib.hid rfl⟩
  rw [hn.out, hnx.out] at HB
  rw [hn.out] at hfew
  obtain ⟨i1, hi1, hy0, hy1, hy2⟩ := info_parts info_int
  have HI1 := Lib.hid hi1
  have HY0 := Lib.hid hy0
  have HY1 := Lib.hid hy1
  have HY2 := Lib.hid hy2
  clear h hB hO hi1 hy0 hy1 hy2
  have x0 := HB.out.cell 0
  have x1 := HB.out.cell 1
  simp at x0 x1
  go_enter Try.func31, Try.ntmps31
  go_upto_region 3 with (fail)
  go_still_tail 9, (by kernel_rfl)
  change wpList _ _ _ _ _ w.drew
  go_upto_region 4 with (fail)
  have hM0 : Hid (Mine w (w.alloc (.cells #[.int .i64 nx, .int .i64 (n : Int)] 3)).drew 1 (.slice (some ⟨w.heap.size, 0, none⟩) 2 2) 2 (icells [nx, (n : Int)])) := Lib.hid (Mine.drew (Mine.fresh ⟨_, _, heap_alloc_new w _, rfl, fun j _ => by rw [← Array.getElem?_toList]; rfl⟩ rfl (Nat.le_refl _) (by unfold maxLen; omega) (Nat.le_refl _)))
  have hb0 : Hid (Below w.heap.size w (w.alloc (.cells #[.int .i64 nx, .int .i64 (n : Int)] 3)).drew) := Lib.hid (below_draw ((Below.refl _ _).alloc (Nat.le_refl _) _) 1)
  generalize w.heap.size = gs at hM0 ⊢
  generalize World.drew _ = wx at hM0 hb0 ⊢
  clear x0 x1
  have x0 := (HB.out.below hb0.out HB.out.lt).cell 0
  simp at x0
  obtain ⟨P, hP⟩ : ∃ P, Hid (P = [nx, (n : Int)]) := ⟨_, Lib.hid rfl⟩
  rw [← hP.out] at hM0
  go_upto_region 5 with (fail)
  clear x0
  go_loopg [3, 29] (n + 1) (fun gk s3 s29 wr => ∃ i A c, gk = n + 1 - i ∧ i ≤ n ∧ s29 = .int .i64 (i : Int) ∧ s3 = .slice A (2 + 6 * i) c ∧ Hid (Mine w wr 1 (.slice A (2 + 6 * i) c) (2 + 6 * i) (icells (P ++ (b.l.take i).flatMap onum))) ∧ Hid (Below w.heap.size w wr))
  case atStart => exact ⟨0, _, 2, rfl, Nat.zero_le _, rfl, rfl, by simpa using hM0, hb0⟩
  case round =>
    clear hM0 hb0
    obtain ⟨i, A, c, rfl, hi, rfl, rfl, hm, hb⟩ := hrel
    have i0 : (0 : Int) ≤ (i : Int) := by omega
    by_cases hlt : i < n
    · have hltI : (i : Int) < (n : Int) := by omega
      have hl : Hid (i < b.l.length) := Lib.hid (by rw [hn.out]; exact hlt)
      obtain ⟨pb, po, rfl⟩ : ∃ b o, A0 = some ⟨b, o, none⟩ := by
        obtain ⟨b, o, e, _⟩ := HO.out.cells hl.out
        exact ⟨b, o, e⟩
      obtain ⟨c0, c1, c2, c3, c4, c5⟩ := ORow.six HO.out hl.out hb.out
      have hsn : Hid ((b.l.take (i + 1)).flatMap onum = (b.l.take i).flatMap onum ++ onum (b.l.getD i ord0)) := Lib.hid (by
        rw [Ca.take_at b.l hl.out, List.flatMap_append]; simp)
      have HM := Lib.hid (show n + 1 - (i + 1) < n + 1 - i by omega)
      generalize b.l.getD i ord0 = q at c0 c1 c2 c3 c4 c5 hsn
      obtain ⟨qi, qo, qp, qa, qpl, qb⟩ := q
      simp only at c0 c1 c2 c3 c4 c5
      obtain ⟨m, hmm⟩ : ∃ m, Hid (2 + 6 * i = m) := ⟨_, Lib.hid rfl⟩
      have hm40 : m ≤ 386 := by have := hmm.out; omega
      rw [hmm.out] at hm ⊢
      have hA1 : Hid (m + 6 ≤ maxLen) := Lib.hid (by unfold maxLen; omega)
      have hA2 : Hid ((m + 6) * 8 ≤ 140737488355328) := Lib.hid (by omega)
      go_upto_region 7 with (fail)
      have hm2 := Lib.hid (hm.out.alloc (.cells #[.int .i64 qi, .int .i64 qo, .int .i64 qp, .int .i64 qa, .int .i64 qpl, .bool qb] 33))
      have hb2 := Lib.hid (hb.out.alloc hb.out.size (.cells #[.int .i64 qi, .int .i64 qo, .int .i64 qp, .int .i64 qa, .int .i64 qpl, .bool qb] 33))
      have B2 : Hid (Blk (wr.alloc (.cells #[.int .i64 qi, .int .i64 qo, .int .i64 qp, .int .i64 qa, .int .i64 qpl, .bool qb] 33)) wr.heap.size 33 #[.int .i64 qi, .int .i64 qo, .int .i64 qp, .int .i64 qa, .int .i64 qpl, .bool qb]) := Lib.hid (Blk.new _ _ _)
      generalize wr.heap.size = gb at B2 ⊢
      generalize World.alloc wr _ = wy at hm2 hb2 B2 ⊢
      clear c0 c1 c2 c3 c4 c5 hm hb
      obtain ⟨c0, c1, c2, c3, c4, c5⟩ : (wy.cell? ⟨gb, 0, none⟩ = some (.int .i64 qi) ∧ wy.cell? ⟨gb, 1, none⟩ = some (.int .i64 qo) ∧ wy.cell? ⟨gb, 2, none⟩ = some (.int .i64 qp) ∧ wy.cell? ⟨gb, 3, none⟩ = some (.int .i64 qa) ∧ wy.cell? ⟨gb, 4, none⟩ = some (.int .i64 qpl) ∧ wy.cell? ⟨gb, 5, none⟩ = some (.bool qb)) := ⟨B2.out.cell 0, B2.out.cell 1, B2.out.cell 2, B2.out.cell 3, B2.out.cell 4, B2.out.cell 5⟩
      cases qb with
      | true =>
        have hS1 : Hid (∀ wz : World, Src Try.prog 1 90 (.slice (some ⟨wz.heap.size, 0, none⟩) 6 6) 6 (icells [qi, qo, 0, qp, qa, qpl]) (wz.alloc (.cells (icells [qi, qo, 0, qp, qa, qpl]).toArray 3))) := Lib.hid fun wz => src_new Try.underlying90 wz _ _ 6 6 rfl (by simp [icells, Value.oneCell'])
        go_wp2_with (first
          | (at_builtin; (refine wpList_append_mine rfl (.tmp 36) (.tmp 48) 90 90 rfl 3 i1 (.int .i64 0) 8 Try.underlying90 HI1.out HY0.out HY1.out HY2.out rfl (by decide) rfl (hm2.out.alloc _) (hb2.out.alloc hb2.out.size _) _ 6 (icells [qi, qo, 0, qp, qa, qpl]) rfl (hS1.out _) hA1.out hA2.out ?_); intro A2 c2' w2 hm3 hb3; have HM3 := Lib.hid hm3; have HB3 := Lib.hid hb3; clear hm3 hb3))
        go_roundg (n + 1 - (i + 1))
        case measure => exact HM.out
        case rel =>
          refine ⟨i + 1, A2, c2', rfl, by omega, by first | rfl | go_num, by rw [show 2 + 6 * (i + 1) = m + 6 from by rw [← hmm.out]; omega], Lib.hid ?_, HB3⟩
          rw [hsn.out, ← List.append_assoc, icells_append, show 2 + 6 * (i + 1) = m + 6 from by rw [← hmm.out]; omega]
          exact HM3.out
      | false =>
        have hS1 : Hid (∀ wz : World, Src Try.prog 1 90 (.slice (some ⟨wz.heap.size, 0, none⟩) 6 6) 6 (icells [qi, qo, 1, qp, qa, qpl]) (wz.alloc (.cells (icells [qi, qo, 1, qp, qa, qpl]).toArray 3))) := Lib.hid fun wz => src_new Try.underlying90 wz _ _ 6 6 rfl (by simp [icells, Value.oneCell'])
        go_wp2_with (first
          | (at_builtin; (refine wpList_append_mine rfl (.tmp 36) (.tmp 48) 90 90 rfl 3 i1 (.int .i64 0) 8 Try.underlying90 HI1.out HY0.out HY1.out HY2.out rfl (by decide) rfl (hm2.out.alloc _) (hb2.out.alloc hb2.out.size _) _ 6 (icells [qi, qo, 1, qp, qa, qpl]) rfl (hS1.out _) hA1.out hA2.out ?_); intro A2 c2' w2 hm3 hb3; have HM3 := Lib.hid hm3; have HB3 := Lib.hid hb3; clear hm3 hb3))
        go_roundg (n + 1 - (i + 1))
        case measure => exact HM.out
        case rel =>
          refine ⟨i + 1, A2, c2', rfl, by omega, by first | rfl | go_num, by rw [show 2 + 6 * (i + 1) = m + 6 from by rw [← hmm.out]; omega], Lib.hid ?_, HB3⟩
          rw [hsn.out, ← List.append_assoc, icells_append, show 2 + 6 * (i + 1) = m + 6 from by rw [← hmm.out]; omega]
          exact HM3.out
    · obtain rfl : i = n := by omega
      have hL : Hid (P ++ ((b.l.take i).flatMap onum) = b.laid) := Lib.hid (by
        unfold Bk.laid
        rw [List.take_of_length_le (by rw [hn.out]; exact Nat.le_refl _), hP.out, hn.out, hnx.out])
      rw [hL.out] at hm
      have hlb := laid_bound hok.out
      have hll := laid_length b
      rw [hn.out] at hll
      have hE : Hid (b.bytes = catN b.laid) := Lib.hid rfl
      obtain ⟨L, hLe⟩ : ∃ L, b.laid = L := ⟨_, rfl⟩
      rw [hLe] at hm hlb hll hE
      obtain ⟨m, hmm⟩ : ∃ m, 2 + 6 * i = m := ⟨_, rfl⟩
      have hm40 : m ≤ 386 := by omega
      rw [hmm] at hm hll ⊢
      have HL := Lib.hid hll
      have HLB := Lib.hid hlb
      have hR : Hid (IRow wr A L) := Lib.hid hm.out.irow
      obtain ⟨w5, hw5⟩ : ∃ w5, w5 = wr := ⟨_, rfl⟩
      have hbw : Hid (Below w5.heap.size w5 wr) := Lib.hid (by rw [hw5]; exact Below.refl _ _)
      have hb5 : Hid (Below w.heap.size w w5) := Lib.hid (by rw [hw5]; exact hb.out)
      rw [← hw5] at hR
      clear hmm hll hlb hLe hL hm hb hw5 hlt
      go_wp2
      go_loopg [7, 53] (m + 1) (fun gk s7 s53 wr => ∃ k, gk = m + 1 - k ∧ k ≤ m ∧ s53 = .int .i64 ((k : Nat) : Int) ∧ s7 = .string (catN (L.take k)) ∧ Hid (Below w5.heap.size w5 wr))
      case atStart => exact ⟨0, rfl, Nat.zero_le _, rfl, rfl, hbw⟩
      case round =>
        clear hbw
        obtain ⟨k, rfl, hk, rfl, rfl, hb⟩ := hrel
        have k0 : (0 : Int) ≤ (k : Int) := by omega
        by_cases hlt2 : k < m
        · have hltI2 : (k : Int) < (m : Int) := by omega
          have hkl : k < L.length := by rw [HL.out]; exact hlt2
          obtain ⟨pb, po, rfl⟩ := hR.out.some hkl
          have ck : wr.cell? ⟨pb, po + k, none⟩ = some (.int .i64 (L.getD k 0)) := by
            obtain ⟨b', o', e, h1, h2⟩ := Row.at_ hR.out hkl
            cases e; exact (below_cell hb.out h1).trans h2
          obtain ⟨v0, v1⟩ := HLB.out (L.getD k 0) (by rw [List.getD_eq_getElem?_getD, List.getElem?_eq_getElem hkl]; exact List.getElem_mem hkl)
          have hsn : Hid (catN (L.take (k + 1)) = catN (L.take k) ++ strOf (num (L.getD k 0).toNat)) := Lib.hid (by
            rw [← catN_snoc, List.take_add_one, List.getD_eq_getElem?_getD, List.getElem?_eq_getElem hkl]; rfl)
          obtain ⟨v, hv⟩ : ∃ v : Nat, L.getD k 0 = (v : Int) := ⟨(L.getD k 0).toNat, by omega⟩
          rw [hv] at ck v1 hsn
          rw [Int.toNat_natCast] at hsn
          have hsz : (catN (L.take k)).size ≤ 3088 := by
            have := catN_size (L.take k) fun x hx => HLB.out x (List.mem_of_mem_take hx)
            rw [List.length_take] at this
            omega
          have hsz2 := strOf_size v (by omega)
          have HPu := Lib.hid (fun w => putInt_calls w v (by omega))
          generalize catN (L.take k) = s1 at hsn hsz ⊢
          generalize strOf (num v) = s2 at hsn hsz2 HPu
          have hszI : (s1.size : Int) + (s2.size : Int) ≤ 3200 := by omega
          clear hkl hv v0
          go_wp2_with (first
            | (go_at_call 55; (with_reducible refine (HPu.out _).mono ?_); rintro e w6 ⟨rfl, hb6⟩))
          go_roundg (m + 1 - (k + 1))
          case measure => omega
          case rel => exact ⟨k + 1, rfl, by omega, by go_num, by rw [hsn.out], Lib.hid (hb.out.trans (hb6.mono hb.out.size))⟩
        · obtain rfl : k = m := by omega
          rw [List.take_of_length_le (by rw [HL.out]; exact Nat.le_refl _)]
          go_wp2
          go_ret
          exact ⟨by rw [hE.out]; rfl, hb5.out.trans (hb.out.mono hb5.out.size)⟩
end Go.Proofs.Ytilbhnloelgpdaa
