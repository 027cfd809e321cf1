/- The contracts of the writer's number and of PutInt: a number as its bytes. -/
import Derived.Test.YtilbhnloelgpdaaIrow
import Derived.Laws.BytesArg
namespace Go.Proofs.Ytilbhnloelgpdaa
open Go.RowKit
/-- A number's bytes: seven bits in each, the least ones first, 128 on top of all but the last. -/
def num (n : Nat) : List Nat := if h : n < 128 then [n] else (n % 128 + 128) :: num (n / 128)
termination_by n
decreasing_by omega
theorem num_small {n : Nat} (h : n < 128) : num n = [n] := by rw [num, dif_pos h]
theorem num_big {n : Nat} (h : ¬ n < 128) : num n = (n % 128 + 128) :: num (n / 128) := by rw [num, dif_neg h]
theorem num_length : ∀ (k n : Nat), n < 128 ^ (k + 1) → (num n).length ≤ k + 1
  | 0, n, h => by rw [num_small (by omega)]; simp
  | k + 1, n, h => by
    by_cases hn : n < 128
    · rw [num_small hn]; simp
    · rw [num_big hn, List.length_cons]
      have h2 : n / 128 < 128 ^ (k + 1) := by rw [Nat.div_lt_iff_lt_mul (by omega)]; rw [Nat.pow_succ] at h; exact h
      have := num_length k (n / 128) h2
      omega
theorem ofInt64 (a : Nat) (ha : a < 9223372036854775808) : (BitVec.ofInt 64 (a : Int)).toNat = a := by
  rw [BitVec.ofInt_natCast, BitVec.toNat_ofNat]; exact Nat.mod_eq_of_lt (by omega)
theorem low7 (n : Nat) (h : n < 9223372036854775808) : bits .and .i64 (n : Int) 127 = ((n % 128 : Nat) : Int) := by
  have e := Nat.and_two_pow_sub_one_eq_mod n 7
  have hx : n &&& 127 = n % 128 := e
  show IntKind.i64.wrap ((BitVec.ofInt 64 (n : Int) &&& BitVec.ofInt 64 ((127 : Nat) : Int)).toNat : Int) = _
  rw [BitVec.toNat_and, ofInt64 n h, ofInt64 127 (by omega), hx, IntKind.wrap_i64]
  omega
theorem top128 (m : Nat) (h : m < 128) : bits .or .i64 (m : Int) 128 = ((m + 128 : Nat) : Int) := by
  have e := Nat.two_pow_add_eq_or_of_lt (i := 7) (b := m) h 1
  have hx : m ||| 128 = m + 128 := by rw [Nat.or_comm]; rw [show (2 : Nat) ^ 7 * 1 = 128 from rfl] at e; omega
  show IntKind.i64.wrap ((BitVec.ofInt 64 (m : Int) ||| BitVec.ofInt 64 ((128 : Nat) : Int)).toNat : Int) = _
  rw [BitVec.toNat_or, ofInt64 m (by omega), ofInt64 128 (by omega), hx, IntKind.wrap_i64]
  omega
def u8c (l : List Nat) : List Value := l.map fun (n : Nat) => .int .u8 (n : Int)
theorem u8c_append (a b : List Nat) : u8c (a ++ b) = u8c a ++ u8c b := by simp [u8c]
theorem info_u8 : (Try.prog.info? 5).map (fun i => (i.zero, i.size, i.bytes)) = some (some (.int .u8 0), 1, 1) := by kernel_rfl
/-- A writer: its block, and what it has laid. -/
def Wr (w0 w : World) (gw : Nat) (l : List Nat) : Prop := ∃ (A : Option Addr) (n c : Nat) (b : Option Nat), Blk w gw 103 #[.slice A n c] ∧ Own w 1 (.slice A n c) b n (u8c l) ∧ b ≠ some gw ∧ w0.heap.size ≤ gw ∧ (∀ k, b = some k → w0.heap.size ≤ k) ∧ Below w0.heap.size w0 w
theorem Wr.len {w : World} {l : List Nat} {A : Option Addr} {n c : Nat} {b : Option Nat} (h : Own w 1 (.slice A n c) b n (u8c l)) : n = l.length := by
  have := h.len
  simp only [u8c, List.length_map, Nat.mul_one] at this
  exact this.symm
/-- One more byte: the slice grown, then kept. -/
theorem Wr.step {w0 w w1 : World} {gw : Nat} {l : List Nat} {x : Nat} {A : Option Addr} {n c : Nat} {b b' : Option Nat} {A' : Option Addr} {c' : Nat}
    (hB : Blk w gw 103 #[.slice A n c]) (hb : b ≠ some gw) (hg : w0.heap.size ≤ gw) (hk : ∀ k, b = some k → w0.heap.size ≤ k) (hbl : Below w0.heap.size w0 w)
    (ho : Own w1 1 (.slice A' (n + 1) c') b' (n + 1) (u8c l ++ u8c [x])) (hgr : w.grownBy w1 b) (hbb : b' = b ∨ b' = some w.heap.size) : Wr w0 (w1.setCell ⟨gw, 0, none⟩ (.slice A' (n + 1) c')) gw (l ++ [x]) := by
  have hlt := hB.lt
  have hB1 : Blk w1 gw 103 #[.slice A n c] := by
    unfold Blk
    rw [hgr.block gw hlt fun e => hb e.symm]; exact hB
  have hb' : b' ≠ some gw := by
    rcases hbb with e | e
    · rw [e]; exact hb
    · rw [e]; intro h; cases h; omega
  refine ⟨A', n + 1, c', b', hB1.set_ 0 _, ?_, hb', hg, fun k hk' => ?_, ?_⟩
  · rw [u8c_append]
    exact ho.carry (by simp) fun g hg' => heap_setCell_other w1 ⟨gw, 0, none⟩ g _ (by rintro rfl; exact hb' hg')
  · rcases hbb with e | e
    · exact hk k (by rw [← e, hk'])
    · rw [e] at hk'; cases hk'; exact Nat.le_trans hbl.size (Nat.le_refl _)
  · exact (below_grown hbl hgr hk).setCell (p := ⟨gw, 0, none⟩) hg _
set_option maxHeartbeats 2000000 in
set_option maxRecDepth 20000 in
theorem number_calls (w0 w : World) (gw N : Nat) (hN : N ≤ 9007199254740992) (h : Wr w0 w gw []) :
    Calls Try.prog 67 #[.pointer (some ⟨gw, 0, none⟩), .int .i64 (N : Int)] w fun e w' => e = .returned (.pointer (some ⟨gw, 0, none⟩)) ∧ Wr w0 w' gw (num N) := by
  have H := Lib.hid h
  clear h
  obtain ⟨i0, hi0, hz0, hz1, hz2⟩ := info_parts info_u8
  have HI0 := Lib.hid hi0
  have HZ0 := Lib.hid hz0
  have HZ1 := Lib.hid hz1
  have HZ2 := Lib.hid hz2
  clear hi0 hz0 hz1 hz2
  go_enter Try.func67, Try.ntmps67
  go_wp2
  go_loopg [1] (N + 1) (fun gk s1 wr => ∃ n l, gk = n + 1 ∧ n ≤ N ∧ Hid (∃ f, l.length + f ≤ 8 ∧ n < 128 ^ (f + 1)) ∧ s1 = .int .i64 ((n : Nat) : Int) ∧ Hid (Wr w0 wr gw l) ∧ Hid (l ++ num n = num N))
  case atStart => exact ⟨N, [], rfl, Nat.le_refl _, Lib.hid ⟨7, by simp, by omega⟩, rfl, H, Lib.hid rfl⟩
  case round =>
    clear H
    obtain ⟨n, l, rfl, hn, hll, rfl, H, E⟩ := hrel
    have n0 : (0 : Int) ≤ (n : Int) := by omega
    obtain ⟨A, m, c, b, hB, ho, hb, hg, hk, hbl⟩ := H.out
    have hm := Wr.len ho
    have HO := Lib.hid ho
    have c0 : wr.cell? ⟨gw, 0, none⟩ = some (.slice A m c) := hB.cell 0
    have hst : Hid (∀ (x : Nat) w1 A' c' b', Own w1 1 (.slice A' (m + 1) c') b' (m + 1) (u8c l ++ [.int .u8 (x : Int)]) → (wr.alloc (.cells #[.int .u8 (x : Int)] 5)).grownBy w1 b → (b' = b ∨ b' = some (wr.alloc (.cells #[.int .u8 (x : Int)] 5)).heap.size) → Wr w0 (w1.setCell ⟨gw, 0, none⟩ (.slice A' (m + 1) c')) gw (l ++ [x]) ∧ w1.frozen? ⟨gw, 0, none⟩ = false ∧ w1.cell? ⟨gw, 0, none⟩ = some (.slice A m c)) := Lib.hid fun x w1 A' c' b' h1 h2 h3 => by
      have hBa := hB.alloc (.cells #[.int .u8 (x : Int)] 5)
      refine ⟨Wr.step hBa hb hg hk (hbl.alloc hbl.size _) h1 h2 h3, ?_, ?_⟩
      all_goals
        have hB1 : Blk w1 gw 103 #[.slice A m c] := by
          unfold Blk
          rw [h2.block gw hBa.lt fun e => hb e.symm]; exact hBa
      · exact hB1.frozen 0
      · exact hB1.cell 0
    have hoa : Hid (∀ o, Own (wr.alloc o) 1 (.slice A m c) b m (u8c l)) := Lib.hid fun o => HO.out.below ((Below.refl _ _).alloc (Nat.le_refl _) _)
    have hmb : m ≤ 8 := by obtain ⟨f, h1, _⟩ := hll.out; omega
    clear hB ho hb hg hk hbl H HO hm
    by_cases hlt : n < 128
    · have hltI : (n : Int) < 128 := by omega
      have E2 : Hid (l ++ [n] = num N) := Lib.hid (by rw [← E.out, num_small hlt])
      have hw8 : IntKind.u8.wrap (n : Int) = (n : Int) := by rw [IntKind.wrap_u8]; omega
      go_wp2_with (first
        | (refine wpList_append_own2 rfl (.tmp 26) (.tmp 29) 101 101 rfl 5 i0 (.int .u8 0) 1 Try.underlying101 HI0.out HZ0.out HZ1.out HZ2.out rfl (by decide) rfl (hoa.out _) _ 1 [.int .u8 (n : Int)] rfl (src_new Try.underlying101 _ _ _ 1 1 rfl (by simp [Value.oneCell'])) (by unfold maxLen; omega) (by omega) ?_; intro A2 c2 w2 b2 ho2 hg2 hb2; obtain ⟨q1, q2, q3⟩ := hst.out n w2 A2 c2 b2 ho2 hg2 hb2; have Q1 := Lib.hid q1; clear q1 ho2 hg2 hb2))
      go_ret
      exact ⟨rfl, by rw [← E2.out]; exact Q1.out⟩
    · have hltI : (128 : Int) ≤ (n : Int) := by omega
      have e1 : bits .and .i64 (n : Int) 127 = ((n % 128 : Nat) : Int) := low7 n (by omega)
      have e2 : bits .or .i64 ((n % 128 : Nat) : Int) 128 = ((n % 128 + 128 : Nat) : Int) := top128 _ (by omega)
      obtain ⟨y, hy⟩ : ∃ y, Hid (n % 128 + 128 = y) := ⟨_, Lib.hid rfl⟩
      obtain ⟨r, hr⟩ : ∃ r, Hid (n % 128 = r) := ⟨_, Lib.hid rfl⟩
      have hyb : y < 256 := by rw [← hy.out]; omega
      rw [hy.out] at e2
      rw [hr.out] at e1 e2
      have hw8 : IntKind.u8.wrap (y : Int) = (y : Int) := by rw [IntKind.wrap_u8]; omega
      obtain ⟨d, hd⟩ : ∃ d, Hid (n / 128 = d) := ⟨_, Lib.hid rfl⟩
      have hsh : (n : Int) / 128 = (d : Int) := by rw [← hd.out]; omega
      have hdn : Hid (d < n) := Lib.hid (by rw [← hd.out]; omega)
      have E2 : Hid ((l ++ [y]) ++ num d = num N) := Lib.hid (by rw [← E.out, num_big hlt, hy.out, hd.out, List.append_assoc]; rfl)
      have hll2 : Hid (∃ f, (l ++ [y]).length + f ≤ 8 ∧ d < 128 ^ (f + 1)) := Lib.hid (by
        rw [← hd.out]
        obtain ⟨f, h1, h2⟩ := hll.out
        cases f with
        | zero => exact absurd (show n < 128 from h2) hlt
        | succ f =>
          refine ⟨f, by rw [List.length_append, List.length_singleton]; omega, ?_⟩
          rw [Nat.div_lt_iff_lt_mul (by omega)]
          rw [Nat.pow_succ] at h2
          exact h2)
      clear hlt
      go_wp2_with (first
        | (refine wpList_append_own2 rfl (.tmp 11) (.tmp 16) 101 101 rfl 5 i0 (.int .u8 0) 1 Try.underlying101 HI0.out HZ0.out HZ1.out HZ2.out rfl (by decide) rfl (hoa.out _) _ 1 [.int .u8 (y : Int)] rfl (src_new Try.underlying101 _ _ _ 1 1 rfl (by simp [Value.oneCell'])) (by unfold maxLen; omega) (by omega) ?_; intro A2 c2 w2 b2 ho2 hg2 hb2; obtain ⟨q1, q2, q3⟩ := hst.out y w2 A2 c2 b2 ho2 hg2 hb2; have Q1 := Lib.hid q1; clear q1 ho2 hg2 hb2))
      go_roundg (d + 1)
      case measure => have := hdn.out; omega
      case rel => exact ⟨d, l ++ [y], rfl, by have := hdn.out; omega, hll2, by first | rfl | go_num, Q1, E2⟩
def strOf (l : List Nat) : ByteArray := strOfNums (l.map fun (n : Nat) => (n : Int))
set_option maxHeartbeats 1000000 in
theorem putInt_calls (w : World) (N : Nat) (hN : N ≤ 9007199254740992) :
    Calls Try.prog 55 #[.int .i64 (N : Int)] w fun e w' => e = .returned (.tuple #[.string (strOf (num N)), .int .i64 0]) ∧ Below w.heap.size w w' := by
  have n0 : (0 : Int) ≤ (N : Int) := by omega
  have n1 : (N : Int) ≤ 9007199254740992 := by omega
  go_enter Try.func55, Try.ntmps55
  go_upto_region 4 with (fail)
  have H0 : Hid (Wr w (w.alloc (.cells #[.slice none 0 0] 103)) w.heap.size []) := Lib.hid ⟨none, 0, 0, none, Blk.new _ _ _, Own.none_ _ _, nofun, Nat.le_refl _, nofun, (Below.refl _ _).alloc (Nat.le_refl _) _⟩
  have HC := Lib.hid (number_calls w _ w.heap.size N hN H0.out)
  generalize w.heap.size = gw at HC ⊢
  generalize World.alloc w _ = wx at HC ⊢
  clear H0
  have hcv : Hid (∀ w1, Wr w w1 gw (num N) → ∃ A c, w1.cell? ⟨gw, 0, none⟩ = some (.slice A (num N).length c) ∧ (convert 101 9 (.slice A (num N).length c)).run Try.prog w1 = .ok (.string (strOf (num N))) w1) := Lib.hid fun w1 h => by
    obtain ⟨A, m, c, b, hB, ho, hb, hg, hk, hbl⟩ := h
    have hm := Wr.len ho
    subst hm
    refine ⟨A, c, hB.cell 0, ?_⟩
    have hpos : 0 < (num N).length := by rw [num]; split <;> simp
    obtain ⟨A', c', e, _, _, hr⟩ := ho.row
    cases e
    rw [Nat.mul_one] at hr
    obtain ⟨pb, po, rfl, -, -⟩ := Row.at_ hr hpos
    refine run_convert_bytes_arg (P := Try.prog) w1 101 5 (by kernel_rfl) (by kernel_rfl) pb po (num N).length c ((num N).map fun (n : Nat) => (n : Int)) (by simp) (fun i hi => ?_) 9 (by kernel_rfl)
    obtain ⟨b', o', e, _, h2⟩ := Row.at_ hr hi
    cases e
    rw [h2]
    simp [u8c, List.getD_eq_getElem?_getD, hi]
  obtain ⟨str, hstr⟩ : ∃ str, Hid (strOf (num N) = str) := ⟨_, Lib.hid rfl⟩
  rw [hstr.out] at hcv
  generalize hl : (num N).length = m at hcv
  go_wp2_with (first
    | (go_at_call 67; (refine HC.out.mono ?_); rintro e w1 ⟨rfl, h⟩; obtain ⟨A, c, c0, hv⟩ := hcv.out _ h; have hb := Lib.hid h; clear h))
  go_ret2
  obtain ⟨_, _, _, _, _, _, _, _, _, hbl⟩ := hb.out
  rw [hstr.out]
  exact ⟨rfl, hbl⟩
end Go.Proofs.Ytilbhnloelgpdaa
