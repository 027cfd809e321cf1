/- A row of ints. The contracts of the writer's number and of PutInt: a number as its bytes. The contract of Bytes: a book's numbers, each as its bytes. -/
import Derived.Test.YtilbhnloelgpdaaGClr
import Derived.Test.YtilbhnloelgpdaaGMem
import Derived.Laws.BytesArg
import Derived.StillTailTactics
namespace Go.Proofs.Ytilbhnloelgpdaa
open Go.RowKit
set_option linter.unusedVariables false
set_option linter.unusedSimpArgs false
def icells (l : List Int) : List Value := l.map (Value.int .i64)
theorem icells_get (l : List Int) {i : Nat} (h : i < l.length) : (icells l)[i]? = some (.int .i64 (l.getD i 0)) := by
  simp [icells, List.getD_eq_getElem?_getD, h]
theorem info_int : (Try.prog.info? 3).map (fun i => (i.zero, i.size, i.bytes)) = some (some (.int .i64 0), 1, 8) := by kernel_rfl
theorem icells_append (a b : List Int) : icells (a ++ b) = icells a ++ icells b := by simp [icells]
def IRow (w : World) (A : Option Addr) (L : List Int) : Prop := Row w A L.length fun j => .int .i64 (L.getD j 0)
theorem IRow.cell {w : World} {b o : Nat} {L : List Int} (h : IRow w (some ⟨b, o, none⟩) L) {i : Nat} (hi : i < L.length) : w.cell? ⟨b, o + i, none⟩ = some (.int .i64 (L.getD i 0)) := by
  obtain ⟨b', o', e, h1, h2⟩ := Row.at_ h hi
  cases e; exact h2
theorem IRow.some {w : World} {A : Option Addr} {L : List Int} (h : IRow w A L) {i : Nat} (hi : i < L.length) : ∃ b o, A = some ⟨b, o, none⟩ := by
  obtain ⟨b, o, e, _⟩ := Row.at_ h hi
  exact ⟨b, o, e⟩
theorem IRow.below {w w' : World} {A : Option Addr} {L : List Int} (h : IRow w A L) (hb : Below w.heap.size w w') : IRow w' A L := Row.below h hb
theorem Mine.irow {w0 w : World} {A : Option Addr} {c n : Nat} {L : List Int} (h : Mine w0 w 1 (.slice A n c) n (icells L)) : IRow w A L := by
  have hl := h.len
  simp only [icells, List.length_map, Nat.mul_one] at hl
  obtain ⟨A', c', e, h1, h2, h3⟩ := h.row
  cases e
  unfold IRow
  rw [Nat.mul_one, ← hl] at h3
  refine h3.of_eq fun j hj => ?_
  rw [List.getD_eq_getElem?_getD, icells_get L hj]; rfl
end Go.Proofs.Ytilbhnloelgpdaa
namespace Go.Proofs.Ytilbhnloelgpdaa
open Go.RowKit
/-- A number's bytes: seven bits in each, the least ones first, 128 on top of all but the last. -/
def num (n : Nat) : List Nat := if h : n < 128 then [n] else (n % 128 + 128) :: num (n / 128)
termination_by n
decreasing_by omega
theorem num_small {n : Nat} (h : n < 128) : num n = [n] := by rw [num, dif_pos h]
theorem num_big {n : Nat} (h : ¬ n < 128) : num n = (n % 128 + 128) :: num (n / 128) := by rw [num, dif_neg h]
theorem num_length : ∀ (k n : Nat), n < 128 ^ (k + 1) → (num n).length ≤ k + 1
  | 0, n, h => by rw [num_small (by omega)]; simp
  | k + 1, n, h => by
    by_cases hn : n < 128
    · rw [num_small hn]; simp
    · rw [num_big hn, List.length_cons]
      have h2 : n / 128 < 128 ^ (k + 1) := by rw [Nat.div_lt_iff_lt_mul (by omega)]; rw [Nat.pow_succ] at h; exact h
      have := num_length k (n / 128) h2
      omega
theorem ofInt64 (a : Nat) (ha : a < 9223372036854775808) : (BitVec.ofInt 64 (a : Int)).toNat = a := by
  rw [BitVec.ofInt_natCast, BitVec.toNat_ofNat]; exact Nat.mod_eq_of_lt (by omega)
theorem low7 (n : Nat) (h : n < 9223372036854775808) : bits .and .i64 (n : Int) 127 = ((n % 128 : Nat) : Int) := by
  have e := Nat.and_two_pow_sub_one_eq_mod n 7
  have hx : n &&& 127 = n % 128 := e
  show IntKind.i64.wrap ((BitVec.ofInt 64 (n : Int) &&& BitVec.ofInt 64 ((127 : Nat) : Int)).toNat : Int) = _
  rw [BitVec.toNat_and, ofInt64 n h, ofInt64 127 (by omega), hx, IntKind.wrap_i64]
  omega
theorem top128 (m : Nat) (h : m < 128) : bits .or .i64 (m : Int) 128 = ((m + 128 : Nat) : Int) := by
  have e := Nat.two_pow_add_eq_or_of_lt (i := 7) (b := m) h 1
  have hx : m ||| 128 = m + 128 := by rw [Nat.or_comm]; rw [show (2 : Nat) ^ 7 * 1 = 128 from rfl] at e; omega
  show IntKind.i64.wrap ((BitVec.ofInt 64 (m : Int) ||| BitVec.ofInt 64 ((128 : Nat) : Int)).toNat : Int) = _
  rw [BitVec.toNat_or, ofInt64 m (by omega), ofInt64 128 (by omega), hx, IntKind.wrap_i64]
  omega
def u8c (l : List Nat) : List Value := l.map fun (n : Nat) => .int .u8 (n : Int)
theorem u8c_append (a b : List Nat) : u8c (a ++ b) = u8c a ++ u8c b := by simp [u8c]
theorem info_u8 : (Try.prog.info? 5).map (fun i => (i.zero, i.size, i.bytes)) = some (some (.int .u8 0), 1, 1) := by kernel_rfl
/-- A writer: its block, and what it has laid. -/
def Wr (w0 w : World) (gw : Nat) (l : List Nat) : Prop := ∃ (A : Option Addr) (n c : Nat) (b : Option Nat), Blk w gw 103 #[.slice A n c] ∧ Own w 1 (.slice A n c) b n (u8c l) ∧ b ≠ some gw ∧ w0.heap.size ≤ gw ∧ (∀ k, b = some k → w0.heap.size ≤ k) ∧ Below w0.heap.size w0 w
theorem Wr.len {w : World} {l : List Nat} {A : Option Addr} {n c : Nat} {b : Option Nat} (h : Own w 1 (.slice A n c) b n (u8c l)) : n = l.length := by
  have := h.len
  simp only [u8c, List.length_map, Nat.mul_one] at this
  exact this.symm
/-- One more byte: the slice grown, then kept. -/
theorem Wr.step {w0 w w1 : World} {gw : Nat} {l : List Nat} {x : Nat} {A : Option Addr} {n c : Nat} {b b' : Option Nat} {A' : Option Addr} {c' : Nat}
    (hB : Blk w gw 103 #[.slice A n c]) (hb : b ≠ some gw) (hg : w0.heap.size ≤ gw) (hk : ∀ k, b = some k → w0.heap.size ≤ k) (hbl : Below w0.heap.size w0 w)
    (ho : Own w1 1 (.slice A' (n + 1) c') b' (n + 1) (u8c l ++ u8c [x])) (hgr : w.grownBy w1 b) (hbb : b' = b ∨ b' = some w.heap.size) : Wr w0 (w1.setCell ⟨gw, 0, none⟩ (.slice A' (n + 1) c')) gw (l ++ [x]) := by
  have hlt := hB.lt
  have hB1 : Blk w1 gw 103 #[.slice A n c] := by
    unfold Blk
    rw [hgr.block gw hlt fun e => hb e.symm]; exact hB
  have hb' : b' ≠ some gw := by
    rcases hbb with e | e
    · rw [e]; exact hb
    · rw [e]; intro h; cases h; omega
  refine ⟨A', n + 1, c', b', hB1.set_ 0 _, ?_, hb', hg, fun k hk' => ?_, ?_⟩
  · rw [u8c_append]
    exact ho.carry (by simp) fun g hg' => heap_setCell_other w1 ⟨gw, 0, none⟩ g _ (by rintro rfl; exact hb' hg')
  · rcases hbb with e | e
    · exact hk k (by rw [← e, hk'])
    · rw [e] at hk'; cases hk'; exact Nat.le_trans hbl.size (Nat.le_refl _)
  · exact (below_grown hbl hgr hk).setCell (p := ⟨gw, 0, none⟩) hg _
set_option maxHeartbeats 2000000 in
set_option maxRecDepth 20000 in
theorem number_calls (w0 w : World) (gw N : Nat) (hN : N ≤ 9007199254740992) (h : Wr w0 w gw []) :
    Calls Try.prog 67 #[.pointer (some ⟨gw, 0, none⟩), .int .i64 (N : Int)] w fun e w' => e = .returned (.pointer (some ⟨gw, 0, none⟩)) ∧ Wr w0 w' gw (num N) := by
  have H := Lib.hid h
  clear h
  obtain ⟨i0, hi0, hz0, hz1, hz2⟩ := info_parts info_u8
  have HI0 := Lib.hid hi0
  have HZ0 := Lib.hid hz0
  have HZ1 := Lib.hid hz1
  have HZ2 := Lib.hid hz2
  clear hi0 hz0 hz1 hz2
  go_enter Try.func67, Try.ntmps67
  go_wp2
  go_loopg [1] (N + 1) (fun gk s1 wr => ∃ n l, gk = n + 1 ∧ n ≤ N ∧ Hid (∃ f, l.length + f ≤ 8 ∧ n < 128 ^ (f + 1)) ∧ s1 = .int .i64 ((n : Nat) : Int) ∧ Hid (Wr w0 wr gw l) ∧ Hid (l ++ num n = num N))
  case atStart => exact ⟨N, [], rfl, Nat.le_refl _, Lib.hid ⟨7, by simp, by omega⟩, rfl, H, Lib.hid rfl⟩
  case round =>
    clear H
    obtain ⟨n, l, rfl, hn, hll, rfl, H, E⟩ := hrel
    have n0 : (0 : Int) ≤ (n : Int) := by omega
    obtain ⟨A, m, c, b, hB, ho, hb, hg, hk, hbl⟩ := H.out
    have hm := Wr.len ho
    have HO := Lib.hid ho
    have c0 : wr.cell? ⟨gw, 0, none⟩ = some (.slice A m c) := hB.cell 0
    have hst : Hid (∀ (x : Nat) w1 A' c' b', Own w1 1 (.slice A' (m + 1) c') b' (m + 1) (u8c l ++ [.int .u8 (x : Int)]) → (wr.alloc (.cells #[.int .u8 (x : Int)] 5)).grownBy w1 b → (b' = b ∨ b' = some (wr.alloc (.cells #[.int .u8 (x : Int)] 5)).heap.size) → Wr w0 (w1.setCell ⟨gw, 0, none⟩ (.slice A' (m + 1) c')) gw (l ++ [x]) ∧ w1.frozen? ⟨gw, 0, none⟩ = false ∧ w1.cell? ⟨gw, 0, none⟩ = some (.slice A m c)) := Lib.hid fun x w1 A' c' b' h1 h2 h3 => by
      have hBa := hB.alloc (.cells #[.int .u8 (x : Int)] 5)
      refine ⟨Wr.step hBa hb hg hk (hbl.alloc hbl.size _) h1 h2 h3, ?_, ?_⟩
      all_goals
        have hB1 : Blk w1 gw 103 #[.slice A m c] := by
          unfold Blk
          rw [h2.block gw hBa.lt fun e => hb e.symm]; exact hBa
      · exact hB1.frozen 0
      · exact hB1.cell 0
    have hoa : Hid (∀ o, Own (wr.alloc o) 1 (.slice A m c) b m (u8c l)) := Lib.hid fun o => HO.out.below ((Below.refl _ _).alloc (Nat.le_refl _) _)
    have hmb : m ≤ 8 := by obtain ⟨f, h1, _⟩ := hll.out; omega
    clear hB ho hb hg hk hbl H HO hm
    by_cases hlt : n < 128
    · have hltI : (n : Int) < 128 := by omega
      have E2 : Hid (l ++ [n] = num N) := Lib.hid (by rw [← E.out, num_small hlt])
      have hw8 : IntKind.u8.wrap (n : Int) = (n : Int) := by rw [IntKind.wrap_u8]; omega
      go_wp2_with (first
        | (refine wpList_append_own2 rfl (.tmp 26) (.tmp 29) 101 101 rfl 5 i0 (.int .u8 0) 1 Try.underlying101 HI0.out HZ0.out HZ1.out HZ2.out rfl (by decide) rfl (hoa.out _) _ 1 [.int .u8 (n : Int)] rfl (src_new Try.underlying101 _ _ _ 1 1 rfl (by simp [Value.oneCell'])) (by unfold maxLen; omega) (by omega) ?_; intro A2 c2 w2 b2 ho2 hg2 hb2; obtain ⟨q1, q2, q3⟩ := hst.out n w2 A2 c2 b2 ho2 hg2 hb2; have Q1 := Lib.hid q1; clear q1 ho2 hg2 hb2))
      go_ret
      exact ⟨rfl, by rw [← E2.out]; exact Q1.out⟩
    · have hltI : (128 : Int) ≤ (n : Int) := by omega
      have e1 : bits .and .i64 (n : Int) 127 = ((n % 128 : Nat) : Int) := low7 n (by omega)
      have e2 : bits .or .i64 ((n % 128 : Nat) : Int) 128 = ((n % 128 + 128 : Nat) : Int) := top128 _ (by omega)
      obtain ⟨y, hy⟩ : ∃ y, Hid (n % 128 + 128 = y) := ⟨_, Lib.hid rfl⟩
      obtain ⟨r, hr⟩ : ∃ r, Hid (n % 128 = r) := ⟨_, Lib.hid rfl⟩
      have hyb : y < 256 := by rw [← hy.out]; omega
      rw [hy.out] at e2
      rw [hr.out] at e1 e2
      have hw8 : IntKind.u8.wrap (y : Int) = (y : Int) := by rw [IntKind.wrap_u8]; omega
      obtain ⟨d, hd⟩ : ∃ d, Hid (n / 128 = d) := ⟨_, Lib.hid rfl⟩
      have hsh : (n : Int) / 128 = (d : Int) := by rw [← hd.out]; omega
      have hdn : Hid (d < n) := Lib.hid (by rw [← hd.out]; omega)
      have E2 : Hid ((l ++ [y]) ++ num d = num N) := Lib.hid (by rw [← E.out, num_big hlt, hy.out, hd.out, List.append_assoc]; rfl)
      have hll2 : Hid (∃ f, (l ++ [y]).length + f ≤ 8 ∧ d < 128 ^ (f + 1)) := Lib.hid (by
        rw [← hd.out]
        obtain ⟨f, h1, h2⟩ := hll.out
        cases f with
        | zero => exact absurd (show n < 128 from h2) hlt
        | succ f =>
          refine ⟨f, by rw [List.length_append, List.length_singleton]; omega, ?_⟩
          rw [Nat.div_lt_iff_lt_mul (by omega)]
          rw [Nat.pow_succ] at h2
          exact h2)
      clear hlt
      go_wp2_with (first
        | (refine wpList_append_own2 rfl (.tmp 11) (.tmp 16) 101 101 rfl 5 i0 (.int .u8 0) 1 Try.underlying101 HI0.out HZ0.out HZ1.out HZ2.out rfl (by decide) rfl (hoa.out _) _ 1 [.int .u8 (y : Int)] rfl (src_new Try.underlying101 _ _ _ 1 1 rfl (by simp [Value.oneCell'])) (by unfold maxLen; omega) (by omega) ?_; intro A2 c2 w2 b2 ho2 hg2 hb2; obtain ⟨q1, q2, q3⟩ := hst.out y w2 A2 c2 b2 ho2 hg2 hb2; have Q1 := Lib.hid q1; clear q1 ho2 hg2 hb2))
      go_roundg (d + 1)
      case measure => have := hdn.out; omega
      case rel => exact ⟨d, l ++ [y], rfl, by have := hdn.out; omega, hll2, by first | rfl | go_num, Q1, E2⟩
def strOf (l : List Nat) : ByteArray := strOfNums (l.map fun (n : Nat) => (n : Int))
set_option maxHeartbeats 1000000 in
theorem putInt_calls (w : World) (N : Nat) (hN : N ≤ 9007199254740992) :
    Calls Try.prog 55 #[.int .i64 (N : Int)] w fun e w' => e = .returned (.tuple #[.string (strOf (num N)), .int .i64 0]) ∧ Below w.heap.size w w' := by
  have n0 : (0 : Int) ≤ (N : Int) := by omega
  have n1 : (N : Int) ≤ 9007199254740992 := by omega
  go_enter Try.func55, Try.ntmps55
  go_upto_region 4 with (fail)
  have H0 : Hid (Wr w (w.alloc (.cells #[.slice none 0 0] 103)) w.heap.size []) := Lib.hid ⟨none, 0, 0, none, Blk.new _ _ _, Own.none_ _ _, nofun, Nat.le_refl _, nofun, (Below.refl _ _).alloc (Nat.le_refl _) _⟩
  have HC := Lib.hid (number_calls w _ w.heap.size N hN H0.out)
  generalize w.heap.size = gw at HC ⊢
  generalize World.alloc w _ = wx at HC ⊢
  clear H0
  have hcv : Hid (∀ w1, Wr w w1 gw (num N) → ∃ A c, w1.cell? ⟨gw, 0, none⟩ = some (.slice A (num N).length c) ∧ (convert 101 9 (.slice A (num N).length c)).run Try.prog w1 = .ok (.string (strOf (num N))) w1) := Lib.hid fun w1 h => by
    obtain ⟨A, m, c, b, hB, ho, hb, hg, hk, hbl⟩ := h
    have hm := Wr.len ho
    subst hm
    refine ⟨A, c, hB.cell 0, ?_⟩
    have hpos : 0 < (num N).length := by rw [num]; split <;> simp
    obtain ⟨A', c', e, _, _, hr⟩ := ho.row
    cases e
    rw [Nat.mul_one] at hr
    obtain ⟨pb, po, rfl, -, -⟩ := Row.at_ hr hpos
    refine run_convert_bytes_arg (P := Try.prog) w1 101 5 (by kernel_rfl) (by kernel_rfl) pb po (num N).length c ((num N).map fun (n : Nat) => (n : Int)) (by simp) (fun i hi => ?_) 9 (by kernel_rfl)
    obtain ⟨b', o', e, _, h2⟩ := Row.at_ hr hi
    cases e
    rw [h2]
    simp [u8c, List.getD_eq_getElem?_getD, hi]
  obtain ⟨str, hstr⟩ : ∃ str, Hid (strOf (num N) = str) := ⟨_, Lib.hid rfl⟩
  rw [hstr.out] at hcv
  generalize hl : (num N).length = m at hcv
  go_wp2_with (first
    | (go_at_call 67; (refine HC.out.mono ?_); rintro e w1 ⟨rfl, h⟩; obtain ⟨A, c, c0, hv⟩ := hcv.out _ h; have hb := Lib.hid h; clear h))
  go_ret2
  obtain ⟨_, _, _, _, _, _, _, _, _, hbl⟩ := hb.out
  rw [hstr.out]
  exact ⟨rfl, hbl⟩
end Go.Proofs.Ytilbhnloelgpdaa
namespace Go.Proofs.Ytilbhnloelgpdaa
open Go.RowKit
set_option linter.unusedVariables false
set_option linter.unusedSimpArgs false
def catN (L : List Int) : ByteArray := L.foldl (fun s n => s ++ strOf (num n.toNat)) ⟨#[]⟩
theorem catN_snoc (L : List Int) (n : Int) : catN (L ++ [n]) = catN L ++ strOf (num n.toNat) := by
  unfold catN; rw [List.foldl_append]; rfl
theorem strOf_size (n : Nat) (h : n ≤ 9007199254740992) : (strOf (num n)).size ≤ 8 := by
  have := num_length 7 n (by omega)
  unfold strOf strOfNums
  simp [ByteArray.size]
  omega
theorem foldN_size : ∀ (L : List Int) (s : ByteArray), (∀ n ∈ L, 0 ≤ n ∧ n ≤ 9007199254740992) → (L.foldl (fun s n => s ++ strOf (num n.toNat)) s).size ≤ s.size + 8 * L.length
  | [], s, _ => by simp
  | n :: L, s, h => by
    rw [List.foldl_cons, List.length_cons]
    have h1 := foldN_size L (s ++ strOf (num n.toNat)) fun m hm => h m (List.mem_cons_of_mem _ hm)
    have h2 := strOf_size n.toNat (by have := h n (List.mem_cons_self ..); omega)
    rw [ByteArray.size_append] at h1
    omega
theorem catN_size (L : List Int) (h : ∀ n ∈ L, 0 ≤ n ∧ n ≤ 9007199254740992) : (catN L).size ≤ 8 * L.length := by
  have := foldN_size L ⟨#[]⟩ h
  have e : (⟨#[]⟩ : ByteArray).size = 0 := rfl
  unfold catN
  omega
/-- The numbers of an order. -/
def onum (o : Ord) : List Int := [o.id, o.owner, if o.buys = true then 0 else 1, o.price, o.amount, o.place]
namespace Bk
/-- The numbers that are laid. -/
def laid (b : Bk) : List Int := [b.next, (b.l.length : Int)] ++ b.l.flatMap onum
def bytes (b : Bk) : ByteArray := catN b.laid
end Bk
theorem onums_length (l : List Ord) : (l.flatMap onum).length = 6 * l.length := by
  induction l with
  | nil => rfl
  | cons p l ih => rw [List.flatMap_cons, List.length_append, ih, List.length_cons]; simp [onum]; omega
theorem laid_length (b : Bk) : b.laid.length = 2 + 6 * b.l.length := by
  unfold Bk.laid
  rw [List.length_append, onums_length]; rfl
theorem onum_bound {o : Ord} (h : o.right = true) (hp : 0 < o.place ∧ o.place < 9007199254740992) : ∀ n ∈ onum o, 0 ≤ n ∧ n ≤ 9007199254740992 := fun n hn => by
  have := (Ord.right_iff o).1 h
  unfold onum at hn
  simp only [List.mem_cons, List.not_mem_nil, or_false] at hn
  rcases hn with rfl | rfl | rfl | rfl | rfl | rfl
  · omega
  · omega
  · split <;> omega
  · omega
  · omega
  · omega
theorem laid_bound {b : Bk} (h : b.Ok) : ∀ n ∈ b.laid, 0 ≤ n ∧ n ≤ 9007199254740992 := fun n hn => by
  unfold Bk.laid at hn
  have h1 := h.next0
  have h2 := h.next1
  have h3 := h.few
  rcases List.mem_append.1 hn with hn | hn
  · simp only [List.mem_cons, List.not_mem_nil, or_false] at hn
    rcases hn with rfl | rfl <;> omega
  · obtain ⟨o, ho, hn⟩ := List.mem_flatMap.1 hn
    have := h.span o ho
    exact onum_bound (h.right o ho) (by omega) n hn
set_option maxHeartbeats 8000000 in
set_option maxRecDepth 100000 in
theorem bytes_calls (w : World) (g : Nat) (gl : Option Nat) (b : Bk) (h : AtB w g gl b) :
    Calls Try.prog 31 #[.pointer (some ⟨g, 0, none⟩)] w fun e w' => e = .returned (.string b.bytes) ∧ Below w.heap.size w w' := by
  have hok := Lib.hid h.ok
  have hfew := h.ok.few
  obtain ⟨A0, c0', hB, hO⟩ := h.box
  have HB := Lib.hid hB
  have HO := Lib.hid (hO.orow rfl).2.2
  obtain ⟨n, hn⟩ : ∃ n, Hid (b.l.length = n) := ⟨_, Lib.hid rfl⟩
  obtain ⟨nx, hnx⟩ : ∃ nx, Hid (b.next = nx) := ⟨_, Lib.hid rfl⟩
  rw [hn.out, hnx.out] at HB
  rw [hn.out] at hfew
  obtain ⟨i1, hi1, hy0, hy1, hy2⟩ := info_parts info_int
  have HI1 := Lib.hid hi1
  have HY0 := Lib.hid hy0
  have HY1 := Lib.hid hy1
  have HY2 := Lib.hid hy2
  clear h hB hO hi1 hy0 hy1 hy2
  have x0 := HB.out.cell 0
  have x1 := HB.out.cell 1
  simp at x0 x1
  go_enter Try.func31, Try.ntmps31
  go_upto_region 3 with (fail)
  go_still_tail 9, (by kernel_rfl)
  change wpList _ _ _ _ _ w.drew
  go_upto_region 4 with (fail)
  have hM0 : Hid (Mine w (w.alloc (.cells #[.int .i64 nx, .int .i64 (n : Int)] 3)).drew 1 (.slice (some ⟨w.heap.size, 0, none⟩) 2 2) 2 (icells [nx, (n : Int)])) := Lib.hid (Mine.drew (Mine.fresh ⟨_, _, heap_alloc_new w _, rfl, fun j _ => by rw [← Array.getElem?_toList]; rfl⟩ rfl (Nat.le_refl _) (by unfold maxLen; omega) (Nat.le_refl _)))
  have hb0 : Hid (Below w.heap.size w (w.alloc (.cells #[.int .i64 nx, .int .i64 (n : Int)] 3)).drew) := Lib.hid (below_draw ((Below.refl _ _).alloc (Nat.le_refl _) _) 1)
  generalize w.heap.size = gs at hM0 ⊢
  generalize World.drew _ = wx at hM0 hb0 ⊢
  clear x0 x1
  have x0 := (HB.out.below hb0.out HB.out.lt).cell 0
  simp at x0
  obtain ⟨P, hP⟩ : ∃ P, Hid (P = [nx, (n : Int)]) := ⟨_, Lib.hid rfl⟩
  rw [← hP.out] at hM0
  go_upto_region 5 with (fail)
  clear x0
  go_loopg [3, 29] (n + 1) (fun gk s3 s29 wr => ∃ i A c, gk = n + 1 - i ∧ i ≤ n ∧ s29 = .int .i64 (i : Int) ∧ s3 = .slice A (2 + 6 * i) c ∧ Hid (Mine w wr 1 (.slice A (2 + 6 * i) c) (2 + 6 * i) (icells (P ++ (b.l.take i).flatMap onum))) ∧ Hid (Below w.heap.size w wr))
  case atStart => exact ⟨0, _, 2, rfl, Nat.zero_le _, rfl, rfl, by simpa using hM0, hb0⟩
  case round =>
    clear hM0 hb0
    obtain ⟨i, A, c, rfl, hi, rfl, rfl, hm, hb⟩ := hrel
    have i0 : (0 : Int) ≤ (i : Int) := by omega
    by_cases hlt : i < n
    · have hltI : (i : Int) < (n : Int) := by omega
      have hl : Hid (i < b.l.length) := Lib.hid (by rw [hn.out]; exact hlt)
      obtain ⟨pb, po, rfl⟩ : ∃ b o, A0 = some ⟨b, o, none⟩ := by
        obtain ⟨b, o, e, _⟩ := HO.out.cells hl.out
        exact ⟨b, o, e⟩
      obtain ⟨c0, c1, c2, c3, c4, c5⟩ := ORow.six HO.out hl.out hb.out
      have hsn : Hid ((b.l.take (i + 1)).flatMap onum = (b.l.take i).flatMap onum ++ onum (b.l.getD i ord0)) := Lib.hid (by
        rw [Ca.take_at b.l hl.out, List.flatMap_append]; simp)
      have HM := Lib.hid (show n + 1 - (i + 1) < n + 1 - i by omega)
      generalize b.l.getD i ord0 = q at c0 c1 c2 c3 c4 c5 hsn
      obtain ⟨qi, qo, qp, qa, qpl, qb⟩ := q
      simp only at c0 c1 c2 c3 c4 c5
      obtain ⟨m, hmm⟩ : ∃ m, Hid (2 + 6 * i = m) := ⟨_, Lib.hid rfl⟩
      have hm40 : m ≤ 386 := by have := hmm.out; omega
      rw [hmm.out] at hm ⊢
      have hA1 : Hid (m + 6 ≤ maxLen) := Lib.hid (by unfold maxLen; omega)
      have hA2 : Hid ((m + 6) * 8 ≤ 140737488355328) := Lib.hid (by omega)
      go_upto_region 7 with (fail)
      have hm2 := Lib.hid (hm.out.alloc (.cells #[.int .i64 qi, .int .i64 qo, .int .i64 qp, .int .i64 qa, .int .i64 qpl, .bool qb] 33))
      have hb2 := Lib.hid (hb.out.alloc hb.out.size (.cells #[.int .i64 qi, .int .i64 qo, .int .i64 qp, .int .i64 qa, .int .i64 qpl, .bool qb] 33))
      have B2 : Hid (Blk (wr.alloc (.cells #[.int .i64 qi, .int .i64 qo, .int .i64 qp, .int .i64 qa, .int .i64 qpl, .bool qb] 33)) wr.heap.size 33 #[.int .i64 qi, .int .i64 qo, .int .i64 qp, .int .i64 qa, .int .i64 qpl, .bool qb]) := Lib.hid (Blk.new _ _ _)
      generalize wr.heap.size = gb at B2 ⊢
      generalize World.alloc wr _ = wy at hm2 hb2 B2 ⊢
      clear c0 c1 c2 c3 c4 c5 hm hb
      obtain ⟨c0, c1, c2, c3, c4, c5⟩ : (wy.cell? ⟨gb, 0, none⟩ = some (.int .i64 qi) ∧ wy.cell? ⟨gb, 1, none⟩ = some (.int .i64 qo) ∧ wy.cell? ⟨gb, 2, none⟩ = some (.int .i64 qp) ∧ wy.cell? ⟨gb, 3, none⟩ = some (.int .i64 qa) ∧ wy.cell? ⟨gb, 4, none⟩ = some (.int .i64 qpl) ∧ wy.cell? ⟨gb, 5, none⟩ = some (.bool qb)) := ⟨B2.out.cell 0, B2.out.cell 1, B2.out.cell 2, B2.out.cell 3, B2.out.cell 4, B2.out.cell 5⟩
      cases qb with
      | true =>
        have hS1 : Hid (∀ wz : World, Src Try.prog 1 90 (.slice (some ⟨wz.heap.size, 0, none⟩) 6 6) 6 (icells [qi, qo, 0, qp, qa, qpl]) (wz.alloc (.cells (icells [qi, qo, 0, qp, qa, qpl]).toArray 3))) := Lib.hid fun wz => src_new Try.underlying90 wz _ _ 6 6 rfl (by simp [icells, Value.oneCell'])
        go_wp2_with (first
          | (at_builtin; (refine wpList_append_mine rfl (.tmp 36) (.tmp 48) 90 90 rfl 3 i1 (.int .i64 0) 8 Try.underlying90 HI1.out HY0.out HY1.out HY2.out rfl (by decide) rfl (hm2.out.alloc _) (hb2.out.alloc hb2.out.size _) _ 6 (icells [qi, qo, 0, qp, qa, qpl]) rfl (hS1.out _) hA1.out hA2.out ?_); intro A2 c2' w2 hm3 hb3; have HM3 := Lib.hid hm3; have HB3 := Lib.hid hb3; clear hm3 hb3))
        go_roundg (n + 1 - (i + 1))
        case measure => exact HM.out
        case rel =>
          refine ⟨i + 1, A2, c2', rfl, by omega, by first | rfl | go_num, by rw [show 2 + 6 * (i + 1) = m + 6 from by rw [← hmm.out]; omega], Lib.hid ?_, HB3⟩
          rw [hsn.out, ← List.append_assoc, icells_append, show 2 + 6 * (i + 1) = m + 6 from by rw [← hmm.out]; omega]
          exact HM3.out
      | false =>
        have hS1 : Hid (∀ wz : World, Src Try.prog 1 90 (.slice (some ⟨wz.heap.size, 0, none⟩) 6 6) 6 (icells [qi, qo, 1, qp, qa, qpl]) (wz.alloc (.cells (icells [qi, qo, 1, qp, qa, qpl]).toArray 3))) := Lib.hid fun wz => src_new Try.underlying90 wz _ _ 6 6 rfl (by simp [icells, Value.oneCell'])
        go_wp2_with (first
          | (at_builtin; (refine wpList_append_mine rfl (.tmp 36) (.tmp 48) 90 90 rfl 3 i1 (.int .i64 0) 8 Try.underlying90 HI1.out HY0.out HY1.out HY2.out rfl (by decide) rfl (hm2.out.alloc _) (hb2.out.alloc hb2.out.size _) _ 6 (icells [qi, qo, 1, qp, qa, qpl]) rfl (hS1.out _) hA1.out hA2.out ?_); intro A2 c2' w2 hm3 hb3; have HM3 := Lib.hid hm3; have HB3 := Lib.hid hb3; clear hm3 hb3))
        go_roundg (n + 1 - (i + 1))
        case measure => exact HM.out
        case rel =>
          refine ⟨i + 1, A2, c2', rfl, by omega, by first | rfl | go_num, by rw [show 2 + 6 * (i + 1) = m + 6 from by rw [← hmm.out]; omega], Lib.hid ?_, HB3⟩
          rw [hsn.out, ← List.append_assoc, icells_append, show 2 + 6 * (i + 1) = m + 6 from by rw [← hmm.out]; omega]
          exact HM3.out
    · obtain rfl : i = n := by omega
      have hL : Hid (P ++ ((b.l.take i).flatMap onum) = b.laid) := Lib.hid (by
        unfold Bk.laid
        rw [List.take_of_length_le (by rw [hn.out]; exact Nat.le_refl _), hP.out, hn.out, hnx.out])
      rw [hL.out] at hm
      have hlb := laid_bound hok.out
      have hll := laid_length b
      rw [hn.out] at hll
      have hE : Hid (b.bytes = catN b.laid) := Lib.hid rfl
      obtain ⟨L, hLe⟩ : ∃ L, b.laid = L := ⟨_, rfl⟩
      rw [hLe] at hm hlb hll hE
      obtain ⟨m, hmm⟩ : ∃ m, 2 + 6 * i = m := ⟨_, rfl⟩
      have hm40 : m ≤ 386 := by omega
      rw [hmm] at hm hll ⊢
      have HL := Lib.hid hll
      have HLB := Lib.hid hlb
      have hR : Hid (IRow wr A L) := Lib.hid hm.out.irow
      obtain ⟨w5, hw5⟩ : ∃ w5, w5 = wr := ⟨_, rfl⟩
      have hbw : Hid (Below w5.heap.size w5 wr) := Lib.hid (by rw [hw5]; exact Below.refl _ _)
      have hb5 : Hid (Below w.heap.size w w5) := Lib.hid (by rw [hw5]; exact hb.out)
      rw [← hw5] at hR
      clear hmm hll hlb hLe hL hm hb hw5 hlt
      go_wp2
      go_loopg [7, 53] (m + 1) (fun gk s7 s53 wr => ∃ k, gk = m + 1 - k ∧ k ≤ m ∧ s53 = .int .i64 ((k : Nat) : Int) ∧ s7 = .string (catN (L.take k)) ∧ Hid (Below w5.heap.size w5 wr))
      case atStart => exact ⟨0, rfl, Nat.zero_le _, rfl, rfl, hbw⟩
      case round =>
        clear hbw
        obtain ⟨k, rfl, hk, rfl, rfl, hb⟩ := hrel
        have k0 : (0 : Int) ≤ (k : Int) := by omega
        by_cases hlt2 : k < m
        · have hltI2 : (k : Int) < (m : Int) := by omega
          have hkl : k < L.length := by rw [HL.out]; exact hlt2
          obtain ⟨pb, po, rfl⟩ := hR.out.some hkl
          have ck : wr.cell? ⟨pb, po + k, none⟩ = some (.int .i64 (L.getD k 0)) := by
            obtain ⟨b', o', e, h1, h2⟩ := Row.at_ hR.out hkl
            cases e; exact (below_cell hb.out h1).trans h2
          obtain ⟨v0, v1⟩ := HLB.out (L.getD k 0) (by rw [List.getD_eq_getElem?_getD, List.getElem?_eq_getElem hkl]; exact List.getElem_mem hkl)
          have hsn : Hid (catN (L.take (k + 1)) = catN (L.take k) ++ strOf (num (L.getD k 0).toNat)) := Lib.hid (by
            rw [← catN_snoc, List.take_add_one, List.getD_eq_getElem?_getD, List.getElem?_eq_getElem hkl]; rfl)
          obtain ⟨v, hv⟩ : ∃ v : Nat, L.getD k 0 = (v : Int) := ⟨(L.getD k 0).toNat, by omega⟩
          rw [hv] at ck v1 hsn
          rw [Int.toNat_natCast] at hsn
          have hsz : (catN (L.take k)).size ≤ 3088 := by
            have := catN_size (L.take k) fun x hx => HLB.out x (List.mem_of_mem_take hx)
            rw [List.length_take] at this
            omega
          have hsz2 := strOf_size v (by omega)
          have HPu := Lib.hid (fun w => putInt_calls w v (by omega))
          generalize catN (L.take k) = s1 at hsn hsz ⊢
          generalize strOf (num v) = s2 at hsn hsz2 HPu
          have hszI : (s1.size : Int) + (s2.size : Int) ≤ 3200 := by omega
          clear hkl hv v0
          go_wp2_with (first
            | (go_at_call 55; (with_reducible refine (HPu.out _).mono ?_); rintro e w6 ⟨rfl, hb6⟩))
          go_roundg (m + 1 - (k + 1))
          case measure => omega
          case rel => exact ⟨k + 1, rfl, by omega, by go_num, by rw [hsn.out], Lib.hid (hb.out.trans (hb6.mono hb.out.size))⟩
        · obtain rfl : k = m := by omega
          rw [List.take_of_length_le (by rw [HL.out]; exact Nat.le_refl _)]
          go_wp2
          go_ret
          exact ⟨by rw [hE.out]; rfl, hb5.out.trans (hb.out.mono hb5.out.size)⟩
end Go.Proofs.Ytilbhnloelgpdaa
