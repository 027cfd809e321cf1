/- The contract of Bytes: an auction's numbers, each as its bytes. -/
import Derived.Test.YtccmafmeblojpaaPut
import Derived.Test.YtccmafmeblojpaaRShares
namespace Go.Proofs.Ytccmafmeblojpaa
open Go.RowKit
/-- The numbers that are laid. -/
def Auc.laid (a : Auc) : List Int := [a.supply, a.start, a.step, a.round, a.state, (a.l.length : Int)] ++ a.l.flatMap fun p => [p.1, p.2]
def catN (L : List Int) : ByteArray := L.foldl (fun s n => s ++ strOf (num n.toNat)) ⟨#[]⟩
theorem catN_snoc (L : List Int) (n : Int) : catN (L ++ [n]) = catN L ++ strOf (num n.toNat) := by
  unfold catN; rw [List.foldl_append]; rfl
def Auc.bytes (a : Auc) : ByteArray := catN a.laid
theorem laid_length (a : Auc) : a.laid.length = 6 + 2 * a.l.length := by
  unfold Auc.laid
  rw [List.length_append]
  have : ∀ l : List (Int × Int), (l.flatMap fun p => [p.1, p.2]).length = 2 * l.length := fun l => by
    induction l with
    | nil => rfl
    | cons p l ih => rw [List.flatMap_cons, List.length_append, ih, List.length_cons]; simp; omega
  rw [this]; rfl
theorem laid_bound {a : Auc} (h : a.Ok) : ∀ n ∈ a.laid, 0 ≤ n ∧ n ≤ 9007199254740992 := fun n hn => by
  unfold Auc.laid at hn
  have h1 := h.supply
  have h2 := h.start
  have h3 := h.step
  have h4 := h.round
  have h5 := h.lap
  have h6 := h.len
  rcases List.mem_append.1 hn with hn | hn
  · simp only [List.mem_cons, List.not_mem_nil, or_false] at hn
    rcases hn with rfl | rfl | rfl | rfl | rfl | rfl
    · omega
    · omega
    · omega
    · omega
    · rcases h.state with e | e | e <;> rw [e] <;> omega
    · omega
  · obtain ⟨p, hp, hn⟩ := List.mem_flatMap.1 hn
    have := h.each p hp
    simp only [List.mem_cons, List.not_mem_nil, or_false] at hn
    rcases hn with rfl | rfl <;> omega
theorem strOf_size (n : Nat) (h : n ≤ 9007199254740992) : (strOf (num n)).size ≤ 8 := by
  have := num_length 7 n (by omega)
  unfold strOf strOfNums
  simp [ByteArray.size]
  omega
theorem foldN_size : ∀ (L : List Int) (s : ByteArray), (∀ n ∈ L, 0 ≤ n ∧ n ≤ 9007199254740992) → (L.foldl (fun s n => s ++ strOf (num n.toNat)) s).size ≤ s.size + 8 * L.length
  | [], s, _ => by simp
  | n :: L, s, h => by
    rw [List.foldl_cons, List.length_cons]
    have h1 := foldN_size L (s ++ strOf (num n.toNat)) fun m hm => h m (List.mem_cons_of_mem _ hm)
    have h2 := strOf_size n.toNat (by have := h n (List.mem_cons_self ..); omega)
    rw [ByteArray.size_append] at h1
    omega
theorem catN_size (L : List Int) (h : ∀ n ∈ L, 0 ≤ n ∧ n ≤ 9007199254740992) : (catN L).size ≤ 8 * L.length := by
  have := foldN_size L ⟨#[]⟩ h
  have e : (⟨#[]⟩ : ByteArray).size = 0 := rfl
  unfold catN
  omega
set_option maxHeartbeats 4000000 in
theorem bytes_calls (w : World) (g gl : Nat) (a : Auc) (h : AtA w g gl a) :
    Calls Try.prog 28 #[.pointer (some ⟨g, 0, none⟩)] w fun e w' => e = .returned (.string a.bytes) ∧ Below w.heap.size w w' := by
  have H := Lib.hid h
  obtain ⟨c0, c1, c2, c3, c4, c5⟩ := h.cells
  obtain ⟨n, hn⟩ : ∃ n, Hid (a.l.length = n) := ⟨_, Lib.hid rfl⟩
  rw [hn.out] at c5
  have hn16 := h.ok.len.2
  rw [hn.out] at hn16
  obtain ⟨i1, hi1, hy0, hy1, hy2⟩ := info_parts info_int
  have HI1 := Lib.hid hi1
  have HY0 := Lib.hid hy0
  have HY1 := Lib.hid hy1
  have HY2 := Lib.hid hy2
  have hc5 : Hid (∀ w1, Below w.heap.size w w1 → w1.cell? ⟨g, 5, none⟩ = some (.slice (some ⟨gl, 0, none⟩) n n)) := Lib.hid fun w1 hb => by
    have := (H.out.below hb).cells.2.2.2.2.2
    rwa [hn.out] at this
  clear h hi1 hy0 hy1 hy2
  go_enter Try.func28, Try.ntmps28
  go_upto_region 3 with (fail)
  go_still_tail 25, (by kernel_rfl)
  change wpList _ _ _ _ _ w.drew
  go_upto_region 4 with (fail)
  have hM0 : Hid (Mine w (w.alloc (.cells #[.int .i64 a.supply, .int .i64 a.start, .int .i64 a.step, .int .i64 a.round, .int .i64 a.state, .int .i64 (n : Int)] 3)).drew 1 (.slice (some ⟨w.heap.size, 0, none⟩) 6 6) 6 (icells [a.supply, a.start, a.step, a.round, a.state, (n : Int)])) := Lib.hid (Mine.drew (Mine.fresh ⟨_, _, heap_alloc_new w _, rfl, fun j _ => by rw [← Array.getElem?_toList]; rfl⟩ rfl (Nat.le_refl _) (by unfold maxLen; omega) (Nat.le_refl _)))
  have hb0 : Hid (Below w.heap.size w (w.alloc (.cells #[.int .i64 a.supply, .int .i64 a.start, .int .i64 a.step, .int .i64 a.round, .int .i64 a.state, .int .i64 (n : Int)] 3)).drew) := Lib.hid (below_draw ((Below.refl _ _).alloc (Nat.le_refl _) _) 1)
  generalize w.heap.size = gs at hM0 ⊢
  generalize World.drew _ = wx at hM0 hb0 ⊢
  have c51 := hc5.out wx hb0.out
  obtain ⟨P, hP⟩ : ∃ P, Hid (P = [a.supply, a.start, a.step, a.round, a.state, (n : Int)]) := ⟨_, Lib.hid rfl⟩
  rw [← hP.out] at hM0
  clear c0 c1 c2 c3 c4 c5
  go_wp2
  clear c51
  go_loopg [3, 44] (n + 1) (fun gk s3 s44 wr => ∃ i A c, gk = n + 1 - i ∧ i ≤ n ∧ s44 = .int .i64 (i : Int) ∧ s3 = .slice A (6 + 2 * i) c ∧ Hid (Mine w wr 1 (.slice A (6 + 2 * i) c) (6 + 2 * i) (icells (P ++ (a.l.take i).flatMap fun p => [p.1, p.2]))) ∧ Hid (Below w.heap.size w wr))
  case atStart => exact ⟨0, _, 6, rfl, Nat.zero_le _, rfl, rfl, by simpa using hM0, hb0⟩
  case round =>
    clear hM0 hb0
    obtain ⟨i, A, c, rfl, hi, rfl, rfl, hm, hb⟩ := hrel
    have i0 : (0 : Int) ≤ (i : Int) := by omega
    by_cases hlt : i < n
    · have hltI : (i : Int) < (n : Int) := by omega
      have hl : i < a.l.length := by rw [hn.out]; exact hlt
      have hA := H.out
      have k1 := (hb.out.cell (p := ⟨gl, i * 2, none⟩) hA.list.lt).trans (hA.was hl)
      have k2 := (hb.out.cell (p := ⟨gl, i * 2 + 1, none⟩) hA.list.lt).trans (hA.now hl)
      have hsn : Hid (((a.l.take (i + 1)).flatMap fun p => [p.1, p.2]) = ((a.l.take i).flatMap fun p => [p.1, p.2]) ++ [(a.l.getD i (0, 0)).1, (a.l.getD i (0, 0)).2]) := Lib.hid (by
        rw [List.take_add_one, List.flatMap_append, List.getD_eq_getElem?_getD, List.getElem?_eq_getElem hl]; simp)
      generalize a.l.getD i (0, 0) = p at k1 k2 hsn
      obtain ⟨p1, p2⟩ := p
      simp only at k1 k2 hsn
      obtain ⟨m, hmm⟩ : ∃ m, Hid (6 + 2 * i = m) := ⟨_, Lib.hid rfl⟩
      have hm40 : m ≤ 40 := by rw [← hmm.out]; omega
      rw [hmm.out] at hm ⊢
      clear hA hl
      go_upto_region 7 with (fail)
      have hm2 := Lib.hid (hm.out.alloc (.cells #[.int .i64 p1, .int .i64 p2] 69))
      have hb2 := Lib.hid (hb.out.alloc hb.out.size (.cells #[.int .i64 p1, .int .i64 p2] 69))
      have B2 : Hid (Blk (wr.alloc (.cells #[.int .i64 p1, .int .i64 p2] 69)) wr.heap.size 69 #[.int .i64 p1, .int .i64 p2]) := Lib.hid (Blk.new _ _ _)
      generalize wr.heap.size = gb at B2 ⊢
      generalize World.alloc wr _ = wy at hm2 hb2 B2 ⊢
      have q1 : wy.cell? ⟨gb, 0, none⟩ = some (.int .i64 p1) := B2.out.cell 0
      have q2 : wy.cell? ⟨gb, 1, none⟩ = some (.int .i64 p2) := B2.out.cell 1
      clear k1 k2 hm hb B2
      go_wp2_with (first
        | (refine wpList_append_mine rfl (.tmp 48) (.tmp 53) 22 22 rfl 3 i1 (.int .i64 0) 8 Try.underlying22 HI1.out HY0.out HY1.out HY2.out rfl (by decide) rfl (hm2.out.alloc _) (hb2.out.alloc hb2.out.size _) _ 2 [.int .i64 p1, .int .i64 p2] rfl (src_new Try.underlying22 _ _ _ 2 2 rfl (by simp [Value.oneCell'])) (by unfold maxLen; omega) (by omega) ?_; intro A2 c2 w2 hm3 hb3))
      go_roundg (n + 1 - (i + 1))
      case measure => omega
      case rel =>
        refine ⟨i + 1, A2, c2, rfl, by omega, by go_num, by rw [← hmm.out]; rfl, Lib.hid ?_, Lib.hid hb3⟩
        rw [hsn.out, ← List.append_assoc, icells_append, show 6 + 2 * (i + 1) = m + 2 from by rw [← hmm.out]; omega]
        exact hm3
    · obtain rfl : i = n := by omega
      have hL : Hid (P ++ ((a.l.take i).flatMap fun p => [p.1, p.2]) = a.laid) := Lib.hid (by
        unfold Auc.laid
        rw [List.take_of_length_le (by rw [hn.out]; exact Nat.le_refl _), hP.out, hn.out])
      rw [hL.out] at hm
      have hlb := laid_bound H.out.ok
      have hll := laid_length a
      rw [hn.out] at hll
      have hE : Hid (a.bytes = catN a.laid) := Lib.hid rfl
      obtain ⟨L, hLe⟩ : ∃ L, a.laid = L := ⟨_, rfl⟩
      rw [hLe] at hm hlb hll hE
      obtain ⟨m, hmm⟩ : ∃ m, 6 + 2 * i = m := ⟨_, rfl⟩
      have hm40 : m ≤ 40 := by omega
      rw [hmm] at hm hll ⊢
      have HL := Lib.hid hll
      have HLB := Lib.hid hlb
      have hR : Hid (IRow wr A L) := Lib.hid hm.out.irow
      obtain ⟨w5, hw5⟩ : ∃ w5, w5 = wr := ⟨_, rfl⟩
      have hbw : Hid (Below w5.heap.size w5 wr) := Lib.hid (by rw [hw5]; exact Below.refl _ _)
      have hb5 : Hid (Below w.heap.size w w5) := Lib.hid (by rw [hw5]; exact hb.out)
      rw [← hw5] at hR
      clear hmm hll hlb hLe hL hm hb hw5 hlt
      go_wp2
      go_loopg [6, 58] (m + 1) (fun gk s6 s58 wr => ∃ k, gk = m + 1 - k ∧ k ≤ m ∧ s58 = .int .i64 ((k : Nat) : Int) ∧ s6 = .string (catN (L.take k)) ∧ Hid (Below w5.heap.size w5 wr))
      case atStart => exact ⟨0, rfl, Nat.zero_le _, rfl, rfl, hbw⟩
      case round =>
        clear hbw
        obtain ⟨k, rfl, hk, rfl, rfl, hb⟩ := hrel
        have k0 : (0 : Int) ≤ (k : Int) := by omega
        by_cases hlt2 : k < m
        · have hltI2 : (k : Int) < (m : Int) := by omega
          have hkl : k < L.length := by rw [HL.out]; exact hlt2
          obtain ⟨pb, po, rfl⟩ := hR.out.some hkl
          have ck : wr.cell? ⟨pb, po + k, none⟩ = some (.int .i64 (L.getD k 0)) := by
            obtain ⟨b', o', e, h1, h2⟩ := Row.at_ hR.out hkl
            cases e; exact (below_cell hb.out h1).trans h2
          obtain ⟨v0, v1⟩ := HLB.out (L.getD k 0) (by rw [List.getD_eq_getElem?_getD, List.getElem?_eq_getElem hkl]; exact List.getElem_mem hkl)
          have hsn : Hid (catN (L.take (k + 1)) = catN (L.take k) ++ strOf (num (L.getD k 0).toNat)) := Lib.hid (by
            rw [← catN_snoc, List.take_add_one, List.getD_eq_getElem?_getD, List.getElem?_eq_getElem hkl]; rfl)
          obtain ⟨v, hv⟩ : ∃ v : Nat, L.getD k 0 = (v : Int) := ⟨(L.getD k 0).toNat, by omega⟩
          rw [hv] at ck v1 hsn
          rw [Int.toNat_natCast] at hsn
          have hsz : (catN (L.take k)).size ≤ 320 := by
            have := catN_size (L.take k) fun x hx => HLB.out x (List.mem_of_mem_take hx)
            rw [List.length_take] at this
            omega
          have hsz2 := strOf_size v (by omega)
          have HPu := Lib.hid (fun w => putInt_calls w v (by omega))
          generalize catN (L.take k) = s1 at hsn hsz ⊢
          generalize strOf (num v) = s2 at hsn hsz2 HPu
          have hszI : (s1.size : Int) + (s2.size : Int) ≤ 400 := by omega
          clear hkl hv v0
          go_wp2_with (first
            | (go_at_call 36; (with_reducible refine (HPu.out _).mono ?_); rintro e w6 ⟨rfl, hb6⟩))
          go_roundg (m + 1 - (k + 1))
          case measure => omega
          case rel => exact ⟨k + 1, rfl, by omega, by go_num, by rw [hsn.out], Lib.hid (hb.out.trans (hb6.mono hb.out.size))⟩
        · obtain rfl : k = m := by omega
          rw [List.take_of_length_le (by rw [HL.out]; exact Nat.le_refl _)]
          go_wp2
          go_ret
          exact ⟨by rw [hE.out]; rfl, hb5.out.trans (hb.out.mono hb5.out.size)⟩
end Go.Proofs.Ytccmafmeblojpaa
