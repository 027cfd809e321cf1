/- The walk of Shares, where there is something to part. -/
import Derived.Test.YtccmafmeblojpaaNew
namespace Go.Proofs.Ytccmafmeblojpaa
open Go.RowKit
/-- Numbers as cells. -/
def icells (l : List Int) : List Value := l.map (Value.int .i64)
theorem icells_get (l : List Int) {i : Nat} (h : i < l.length) : (icells l)[i]? = some (.int .i64 (l.getD i 0)) := by
  simp [icells, List.getD_eq_getElem?_getD, List.getElem?_eq_getElem h]
theorem icells_set (l : List Int) (i : Nat) (x : Int) : (icells l).set i (.int .i64 x) = icells (l.set i x) := by simp [icells, List.map_set]
theorem info_int : (Try.prog.info? 3).map (fun i => (i.zero, i.size, i.bytes)) = some (some (.int .i64 0), 1, 8) := by kernel_rfl
theorem made_ints (n : Nat) : madeCells (Value.int .i64 0).cells (n * 1) = (icells (List.replicate n 0)).toArray := by
  apply Array.ext'
  unfold madeCells icells
  simp [Value.cells]
  rw [List.eq_replicate_iff]
  refine ⟨by simp, fun b hb => ?_⟩
  obtain ⟨x, _, rfl⟩ := List.mem_map.1 hb
  rw [Nat.mod_one]
  rfl
theorem make_ints (n : Nat) (hn : n ≤ 1000000) (w : World) : (Instr.makeSlice 22 (.int .i64 (n : Int)) (.int .i64 (n : Int))).run Try.prog w = .ok (.slice (some ⟨w.heap.size, 0, none⟩) n n) (w.alloc (.cells (icells (List.replicate n 0)).toArray 3)) := by
  obtain ⟨i0, hi0, hz0, hz1, hz2⟩ := info_parts info_int
  rw [run_make (P := Try.prog) w 22 3 i0 _ Try.underlying22 hi0 hz0 .i64 .i64 (n : Int) (n : Int) (by omega) (by omega) (by rw [hz2]; omega) (by omega)]
  rw [hz1, Int.toNat_natCast, made_ints]
namespace Sh
def first (n S g : Int) : Int := if 0 < S then n * g / S else 0
def firsts (n : Int) (gaps : List Int) : List Int := gaps.map (first n gaps.sum)
/-- What is left is told one by one, i gaps looked at. -/
def bumps (gaps : List Int) (left : Int) (out : List Int) : Nat → Int × List Int
  | 0 => (left, out)
  | i + 1 => if 0 < (bumps gaps left out i).1 ∧ (bumps gaps left out i).2.getD i 0 < gaps.getD i 0 then ((bumps gaps left out i).1 - 1, (bumps gaps left out i).2.set i ((bumps gaps left out i).2.getD i 0 + 1)) else bumps gaps left out i
def shares (n : Int) (gaps : List Int) : List Int := (bumps gaps (n - (firsts n gaps).sum) (firsts n gaps) gaps.length).2
def laid (n : Int) (gaps : List Int) (i : Nat) : List Int := (firsts n gaps).take i ++ List.replicate (gaps.length - i) 0
theorem firsts_length (n : Int) (gaps : List Int) : (firsts n gaps).length = gaps.length := by simp [firsts]
theorem laid_length (n : Int) (gaps : List Int) {i : Nat} (h : i ≤ gaps.length) : (laid n gaps i).length = gaps.length := by
  unfold laid; rw [List.length_append, List.length_take, firsts_length, List.length_replicate]; omega
theorem laid_set (n : Int) (gaps : List Int) {i : Nat} (h : i < gaps.length) : (laid n gaps i).set i (first n gaps.sum (gaps.getD i 0)) = laid n gaps (i + 1) := by
  unfold laid
  rw [List.set_append_right _ _ (by rw [List.length_take, firsts_length]; omega), List.length_take, firsts_length, Nat.min_eq_left (by omega), Nat.sub_self]
  obtain ⟨m, hm⟩ : ∃ m, gaps.length - i = m + 1 := ⟨gaps.length - i - 1, by omega⟩
  rw [hm, List.replicate_succ, List.set_cons_zero, show gaps.length - (i + 1) = m from by omega, List.take_add_one, List.append_assoc]
  congr 1
  unfold firsts
  rw [List.getElem?_map, List.getElem?_eq_getElem h, List.getD_eq_getElem?_getD, List.getElem?_eq_getElem h]
  rfl
theorem laid_zero_at (n : Int) (gaps : List Int) {i : Nat} (h : i < gaps.length) : (laid n gaps i).getD i 0 = 0 := by
  unfold laid
  rw [List.getD_eq_getElem?_getD, List.getElem?_append_right (by rw [List.length_take, firsts_length]; omega), List.length_take, firsts_length, Nat.min_eq_left (by omega), Nat.sub_self, List.getElem?_replicate, if_pos (by omega)]; rfl
theorem laid_keep (n : Int) (gaps : List Int) {i : Nat} (h : i < gaps.length) (h0 : first n gaps.sum (gaps.getD i 0) = 0) : laid n gaps i = laid n gaps (i + 1) := by
  rw [← laid_set n gaps h, h0]
  apply List.ext_getElem?
  intro j
  rw [List.getElem?_set]
  by_cases e : i = j
  · subst e
    have hl := laid_length n gaps (Nat.le_of_lt h)
    have := laid_zero_at n gaps h
    rw [List.getD_eq_getElem?_getD, List.getElem?_eq_getElem (by omega)] at this
    rw [if_pos rfl, if_pos (by omega), List.getElem?_eq_getElem (by omega)]
    exact congrArg some this
  · rw [if_neg e]
theorem laid_all (n : Int) (gaps : List Int) : laid n gaps gaps.length = firsts n gaps := by
  unfold laid; rw [Nat.sub_self, List.take_of_length_le (by rw [firsts_length]; omega)]; simp
theorem sum_take (l : List Int) {i : Nat} (h : i < l.length) : (l.take (i + 1)).sum = (l.take i).sum + l.getD i 0 := by
  rw [List.take_add_one, List.sum_append, List.getD_eq_getElem?_getD, List.getElem?_eq_getElem h]; simp
theorem sum_bound {l : List Int} (h : ∀ g ∈ l, 0 ≤ g ∧ g ≤ 1048576) : 0 ≤ l.sum ∧ l.sum ≤ 1048576 * l.length := by
  induction l with
  | nil => simp
  | cons g l ih =>
    have h1 := h g (List.mem_cons_self ..)
    have h2 := ih fun x hx => h x (List.mem_cons_of_mem _ hx)
    rw [List.sum_cons, List.length_cons]
    push_cast
    omega
theorem bumps_length (gaps : List Int) (left : Int) (out : List Int) (i : Nat) : (bumps gaps left out i).2.length = out.length := by
  induction i with
  | zero => rfl
  | succ i ih => rw [bumps]; split <;> simp [ih]
theorem bumps_bound (gaps : List Int) (left : Int) (out : List Int) (i : Nat) : left - i ≤ (bumps gaps left out i).1 ∧ (bumps gaps left out i).1 ≤ left := by
  induction i with
  | zero => simp [bumps]
  | succ i ih =>
    rw [bumps]
    split
    · show left - ((i + 1 : Nat) : Int) ≤ (bumps gaps left out i).1 - 1 ∧ (bumps gaps left out i).1 - 1 ≤ left
      push_cast; omega
    · push_cast; omega
theorem bumps_at (gaps : List Int) (left : Int) (out : List Int) (i : Nat) : ∀ j, i ≤ j → (bumps gaps left out i).2.getD j 0 = out.getD j 0 := by
  induction i with
  | zero => intro j _; rfl
  | succ i ih =>
    intro j hj
    rw [bumps]
    split
    · simp only
      rw [List.getD_eq_getElem?_getD, List.getElem?_set_ne (by omega), ← List.getD_eq_getElem?_getD]
      exact ih j (by omega)
    · exact ih j (by omega)
theorem first_bound {n S g : Int} (hn : 0 ≤ n ∧ n ≤ 1048576) (hg : 0 ≤ g) (hgS : g ≤ S) : 0 ≤ first n S g ∧ first n S g ≤ n := by
  unfold first
  split
  · rename_i hS
    refine ⟨Int.ediv_nonneg (Int.mul_nonneg hn.1 hg) (by omega), ?_⟩
    have h1 : n * g ≤ n * S := Int.mul_le_mul_of_nonneg_left hgS hn.1
    have h2 := Int.ediv_le_ediv hS h1
    rw [Int.mul_ediv_cancel _ (by omega)] at h2
    exact h2
  · exact ⟨Int.le_refl _, hn.1⟩
theorem le_sum {l : List Int} (h : ∀ g ∈ l, 0 ≤ g ∧ g ≤ 1048576) {x : Int} (hx : x ∈ l) : x ≤ l.sum := by
  induction l with
  | nil => cases hx
  | cons g l ih =>
    have h1 := h g (List.mem_cons_self ..)
    have h2 := sum_bound fun y hy => h y (List.mem_cons_of_mem _ hy)
    rw [List.sum_cons]
    rcases List.mem_cons.1 hx with rfl | hx
    · omega
    · have := ih (fun y hy => h y (List.mem_cons_of_mem _ hy)) hx; omega
theorem take_sum_bound {n : Int} {gaps : List Int} (hn : 0 ≤ n ∧ n ≤ 1048576) (h : ∀ g ∈ gaps, 0 ≤ g ∧ g ≤ 1048576) (hl : gaps.length ≤ 16) (i : Nat) : 0 ≤ ((firsts n gaps).take i).sum ∧ ((firsts n gaps).take i).sum ≤ 16777216 := by
  have hb : ∀ g ∈ (firsts n gaps).take i, 0 ≤ g ∧ g ≤ 1048576 := fun g hg => by
    have hg := List.mem_of_mem_take hg
    unfold firsts at hg
    obtain ⟨x, hx, rfl⟩ := List.mem_map.1 hg
    have := first_bound hn (h x hx).1 (le_sum h hx)
    omega
  have h1 := sum_bound hb
  have h2 : ((firsts n gaps).take i).length ≤ 16 := by rw [List.length_take, firsts_length]; omega
  omega
end Sh
set_option maxHeartbeats 1000000 in
theorem shares_calls (w : World) (n : Int) (A : Option Addr) (m c : Nat) (gaps : List Int) (hm : gaps.length = m) (hm16 : m ≤ 16) (hg : ∀ g ∈ gaps, 0 ≤ g ∧ g ≤ 1048576) (hn : 0 ≤ n ∧ n ≤ 1048576) (hns : n ≤ gaps.sum) (hR : Row w A m fun j => .int .i64 (gaps.getD j 0)) :
    Calls Try.prog 12 #[.int .i64 n, .slice A m c] w fun e w' => ∃ go, e = .returned (.tuple #[.slice (some ⟨go, 0, none⟩) m m, .int .i64 0]) ∧ w.heap.size ≤ go ∧ Blk w' go 3 (icells (Sh.shares n gaps)).toArray ∧ Below w.heap.size w w' := by
  have HR := Lib.hid hR
  have HM := Lib.hid hm
  have HG := Lib.hid hg
  have hmk := make_ints m (by omega)
  obtain ⟨n0, n1⟩ := id hn
  have HNS := Lib.hid hns
  have HN := Lib.hid hn
  have hsb := Sh.sum_bound hg
  have hS : Hid (0 ≤ gaps.sum ∧ gaps.sum ≤ 16777216) := Lib.hid (by omega)
  have m16 : (m : Int) ≤ 16 := by omega
  clear hm hg hR hns hsb hn
  have hat : Hid (∀ i, i < m → 0 ≤ gaps.getD i 0 ∧ gaps.getD i 0 ≤ 1048576 ∧ gaps.getD i 0 ≤ gaps.sum) := Lib.hid fun i hi => by
    have hmem : gaps.getD i 0 ∈ gaps := by
      rw [List.getD_eq_getElem?_getD, List.getElem?_eq_getElem (by rw [HM.out]; exact hi)]; exact List.getElem_mem _
    exact ⟨(HG.out _ hmem).1, (HG.out _ hmem).2, Sh.le_sum HG.out hmem⟩
  go_enter Try.func12, Try.ntmps12
  go_wp2
  go_loopg [6, 17] (m + 1) (fun gk s6 s17 wr => ∃ i, gk = m + 1 - i ∧ i ≤ m ∧ s17 = .int .i64 (i : Int) ∧ s6 = .int .i64 ((gaps.take i).sum) ∧ wr = w)
  case atStart => exact ⟨0, rfl, Nat.zero_le _, rfl, rfl, rfl⟩
  case round =>
    obtain ⟨i, rfl, hi, rfl, rfl, rfl⟩ := hrel
    have i0 : (0 : Int) ≤ (i : Int) := by omega
    by_cases hlt : i < m
    · obtain ⟨pb, po, rfl, -⟩ := HR.out.at_ hlt
      have cg : wr.cell? ⟨pb, po + i, none⟩ = some (.int .i64 (gaps.getD i 0)) := by
        obtain ⟨b', o', e, h1, h2⟩ := HR.out.at_ hlt
        cases e; exact h2
      have hl2 : (i : Int) < (m : Int) := by omega
      obtain ⟨g0, g1, -⟩ := hat.out i hlt
      have hsn : Hid ((gaps.take (i + 1)).sum = (gaps.take i).sum + gaps.getD i 0) := Lib.hid (Sh.sum_take gaps (by rw [HM.out]; exact hlt))
      have hb := Sh.sum_bound (l := gaps.take i) fun g hg => HG.out g (List.mem_of_mem_take hg)
      have hbl : (gaps.take i).length ≤ 16 := by rw [List.length_take]; omega
      obtain ⟨hb0, hb1⟩ := hb
      have hb2 : (gaps.take i).sum ≤ 16777216 := by omega
      generalize gaps.getD i 0 = y at cg hsn g0 g1
      clear hb1 hbl
      go_wp2
      go_roundg (m + 1 - (i + 1))
      case measure => omega
      case rel => exact ⟨i + 1, rfl, by omega, by go_num, by rw [hsn.out], rfl⟩
    · obtain rfl : i = m := by omega
      rw [List.take_of_length_le (by rw [HM.out]; omega)]
      obtain ⟨S, hSS⟩ : ∃ S, Hid (gaps.sum = S) := ⟨_, Lib.hid rfl⟩
      rw [hSS.out]
      obtain ⟨s0, s1⟩ : 0 ≤ S ∧ S ≤ 16777216 := by rw [← hSS.out]; exact hS.out
      have hnS : n ≤ S := by rw [← hSS.out]; exact HNS.out
      have hi16 : i ≤ 16 := hm16
      have k1 : (16 : Int) < (i : Int) → False := fun h => by omega
      have k2 : ¬ (16 < (i : Int)) := by omega
      clear hlt k1
      go_wp2
      obtain ⟨go, hgo⟩ : ∃ go, go = wr.heap.size := ⟨_, rfl⟩
      rw [← hgo]
      have hB0 : Hid (Blk (wr.alloc (.cells (icells (List.replicate i 0)).toArray 3)) go 3 (icells (Sh.laid n gaps 0)).toArray) := Lib.hid (by
        rw [hgo]
        have : Sh.laid n gaps 0 = List.replicate i 0 := by unfold Sh.laid; rw [HM.out]; simp
        rw [this]; exact Blk.new _ _ _)
      have hb0 : Hid (Below wr.heap.size wr (wr.alloc (.cells (icells (List.replicate i 0)).toArray 3))) := Lib.hid ((Below.refl _ _).alloc (Nat.le_refl _) _)
      have HGO := Lib.hid hgo
      generalize World.alloc wr _ = wx at hB0 hb0 ⊢
      obtain ⟨w0, rfl⟩ : ∃ x, x = wr := ⟨_, rfl⟩
      clear hgo hmk
      have hfb : Hid (∀ j, 0 ≤ ((Sh.firsts n gaps).take j).sum ∧ ((Sh.firsts n gaps).take j).sum ≤ 16777216) := Lib.hid (Sh.take_sum_bound HN.out HG.out (by rw [HM.out]; exact hm16))
      go_loopg [10, 53] (i + 1) (fun gk s10 s53 wr => ∃ j, gk = i + 1 - j ∧ j ≤ i ∧ s53 = .int .i64 (j : Int) ∧ s10 = .int .i64 (n - ((Sh.firsts n gaps).take j).sum) ∧ Hid (Blk wr go 3 (icells (Sh.laid n gaps j)).toArray) ∧ Hid (Below w0.heap.size w0 wr))
      case atStart => exact ⟨0, rfl, Nat.zero_le _, rfl, by simp, hB0, hb0⟩
      case round =>
        clear hB0 hb0
        obtain ⟨j, rfl, hj, rfl, rfl, hB, hb⟩ := hrel
        have j0 : (0 : Int) ≤ (j : Int) := by omega
        obtain ⟨t0, t1⟩ := hfb.out j
        by_cases hlt : j < i
        · obtain ⟨pb, po, rfl, -⟩ := HR.out.at_ hlt
          have hjl : j < gaps.length := by rw [HM.out]; exact hlt
          have cg : wr.cell? ⟨pb, po + j, none⟩ = some (.int .i64 (gaps.getD j 0)) := by
            obtain ⟨b', o', e, h1, h2⟩ := HR.out.at_ hlt
            cases e; exact (below_cell hb.out h1).trans h2
          have hl2 : (j : Int) < (i : Int) := by omega
          obtain ⟨g0, g1, g2⟩ := hat.out j hlt
          rw [hSS.out] at g2
          have co : wr.cell? ⟨go, j, none⟩ = some (.int .i64 0) := by
            rw [hB.out.cell, List.getElem?_toArray, icells_get _ (by rw [Sh.laid_length _ _ (Nat.le_of_lt hjl)]; exact hjl), Sh.laid_zero_at _ _ hjl]
          have fo := hB.out.frozen j
          have hsn : Hid (((Sh.firsts n gaps).take (j + 1)).sum = ((Sh.firsts n gaps).take j).sum + Sh.first n S (gaps.getD j 0)) := Lib.hid (by
            rw [Sh.sum_take _ (by rw [Sh.firsts_length]; exact hjl)]
            congr 1
            unfold Sh.firsts
            rw [List.getD_eq_getElem?_getD, List.getElem?_map, List.getElem?_eq_getElem hjl, hSS.out, List.getD_eq_getElem?_getD, List.getElem?_eq_getElem hjl]; rfl)
          have hset := Lib.hid (Sh.laid_set n gaps hjl)
          rw [hSS.out] at hset
          obtain ⟨y, hy⟩ : ∃ y, gaps.getD j 0 = y := ⟨_, rfl⟩
          rw [hy] at cg hsn hset g0 g1 g2
          have hfb2 := Sh.first_bound HN.out g0 g2
          have hB2 : Hid (∀ v, v = Sh.first n S y → Blk (wr.setCell ⟨go, j, none⟩ (.int .i64 v)) go 3 (icells (Sh.laid n gaps (j + 1))).toArray) := Lib.hid fun v hv => by
            subst hv
            have := hB.out.set_ j (.int .i64 (Sh.first n S y))
            rw [List.setIfInBounds_toArray, icells_set, hset.out] at this
            exact this
          have HGS := Lib.hid (show w0.heap.size ≤ go by rw [HGO.out]; omega)
          by_cases hS0 : 0 < S
          · have e1 : Hid (Sh.first n S y = n * y / S) := Lib.hid (by unfold Sh.first; rw [if_pos hS0])
            have hm0 : 0 ≤ n * y := Int.mul_nonneg n0 g0
            have hm1 : n * y ≤ 1099511627776 := by
              have h1 := Int.mul_le_mul_of_nonneg_left g1 n0
              omega
            have q1 : IntKind.i64.wrap (n * y) = n * y := by rw [IntKind.wrap_i64]; omega
            have q2 : (n * y).tdiv S = n * y / S := Int.tdiv_eq_ediv_of_nonneg hm0
            rw [e1.out] at hfb2 hsn
            obtain ⟨z, hz⟩ : ∃ z, n * y / S = z := ⟨_, rfl⟩
            have hB3 := Lib.hid (hB2.out z (by rw [e1.out, hz]))
            rw [hz] at hfb2 hsn
            obtain ⟨z0, z1⟩ := hfb2
            clear hy hjl
            go_wp2
            go_roundg (i + 1 - (j + 1))
            case measure => omega
            case rel => exact ⟨j + 1, rfl, by omega, by go_num, by rw [hsn.out]; congr 1; omega, hB3, Lib.hid (hb.out.setCell HGS.out _)⟩
          · have e1 : Hid (Sh.first n S y = 0) := Lib.hid (by unfold Sh.first; rw [if_neg hS0])
            have hkp : Hid (Sh.laid n gaps j = Sh.laid n gaps (j + 1)) := Lib.hid (Sh.laid_keep n gaps hjl (by rw [hSS.out, hy]; exact e1.out))
            rw [e1.out] at hsn
            have hS1 : S ≤ 0 := by omega
            clear hy hjl hfb2
            go_wp2
            go_roundg (i + 1 - (j + 1))
            case measure => omega
            case rel => exact ⟨j + 1, rfl, by omega, by go_num, by rw [hsn.out]; congr 1; omega, by rw [← hkp.out]; exact hB, hb⟩
        · obtain rfl : j = i := by omega
          have hB1 : Hid (Blk wr go 3 (icells (Sh.firsts n gaps)).toArray) := Lib.hid (by
            have := hB.out
            have e := Sh.laid_all n gaps
            rw [HM.out] at e
            rw [e] at this; exact this)
          rw [List.take_of_length_le (by rw [Sh.firsts_length, HM.out]; omega)] at t0 t1 ⊢
          have hle : n - (Sh.firsts n gaps).sum ≤ 1048576 := by omega
          have hge : -16777216 ≤ n - (Sh.firsts n gaps).sum := by omega
          obtain ⟨L0, hL0⟩ : ∃ L0, Hid (n - (Sh.firsts n gaps).sum = L0) := ⟨_, Lib.hid rfl⟩
          rw [hL0.out] at hle hge ⊢
          have hB2 : Hid (Blk wr go 3 (icells (Sh.bumps gaps L0 (Sh.firsts n gaps) 0).2).toArray) := hB1
          have hob : Hid (∀ q, 0 ≤ (Sh.firsts n gaps).getD q 0 ∧ (Sh.firsts n gaps).getD q 0 ≤ 1048576) := Lib.hid fun q => by
            rw [List.getD_eq_getElem?_getD]
            cases hq : (Sh.firsts n gaps)[q]? with
            | none => simp
            | some x =>
              have hmem := List.mem_of_getElem? hq
              unfold Sh.firsts at hmem
              obtain ⟨y, hy, rfl⟩ := List.mem_map.1 hmem
              have := Sh.first_bound HN.out (HG.out y hy).1 (Sh.le_sum HG.out hy)
              have := HN.out
              simp only [Option.getD_some]
              omega
          clear hB1 hB hlt t0 t1
          go_wp2
          go_loopg [10, 77] (j + 1) (fun gk s10 s77 wr => ∃ q, gk = j + 1 - q ∧ q ≤ j ∧ s77 = .int .i64 (q : Int) ∧ s10 = .int .i64 (Sh.bumps gaps L0 (Sh.firsts n gaps) q).1 ∧ Hid (Blk wr go 3 (icells (Sh.bumps gaps L0 (Sh.firsts n gaps) q).2).toArray) ∧ Hid (Below w0.heap.size w0 wr))
          case atStart => exact ⟨0, rfl, Nat.zero_le _, rfl, rfl, hB2, hb⟩
          case round =>
            clear hB2 hb
            obtain ⟨q, rfl, hq, rfl, rfl, hB, hb⟩ := hrel
            have q0 : (0 : Int) ≤ (q : Int) := by omega
            obtain ⟨u0, u1⟩ := Sh.bumps_bound gaps L0 (Sh.firsts n gaps) q
            by_cases hlt : q < j
            · obtain ⟨pb, po, rfl, -⟩ := HR.out.at_ hlt
              have hjl : q < gaps.length := by rw [HM.out]; exact hlt
              have cg : wr.cell? ⟨pb, po + q, none⟩ = some (.int .i64 (gaps.getD q 0)) := by
                obtain ⟨b', o', e, h1, h2⟩ := HR.out.at_ hlt
                cases e; exact (below_cell hb.out h1).trans h2
              have hl2 : (q : Int) < (j : Int) := by omega
              have hol : q < (Sh.bumps gaps L0 (Sh.firsts n gaps) q).2.length := by rw [Sh.bumps_length, Sh.firsts_length]; exact hjl
              have co : wr.cell? ⟨go, q, none⟩ = some (.int .i64 ((Sh.bumps gaps L0 (Sh.firsts n gaps) q).2.getD q 0)) := by
                rw [hB.out.cell, List.getElem?_toArray, icells_get _ hol]
              have fo := hB.out.frozen q
              have hx := Sh.bumps_at gaps L0 (Sh.firsts n gaps) q q (Nat.le_refl _)
              obtain ⟨o0, o1⟩ := hob.out q
              rw [← hx] at o0 o1
              have hbs : Hid (Sh.bumps gaps L0 (Sh.firsts n gaps) (q + 1) = if 0 < (Sh.bumps gaps L0 (Sh.firsts n gaps) q).1 ∧ (Sh.bumps gaps L0 (Sh.firsts n gaps) q).2.getD q 0 < gaps.getD q 0 then ((Sh.bumps gaps L0 (Sh.firsts n gaps) q).1 - 1, (Sh.bumps gaps L0 (Sh.firsts n gaps) q).2.set q ((Sh.bumps gaps L0 (Sh.firsts n gaps) q).2.getD q 0 + 1)) else Sh.bumps gaps L0 (Sh.firsts n gaps) q) := Lib.hid rfl
              have HGS := Lib.hid (show w0.heap.size ≤ go by rw [HGO.out]; omega)
              clear hx hjl hol
              obtain ⟨b, hbe⟩ : ∃ b, Sh.bumps gaps L0 (Sh.firsts n gaps) q = b := ⟨_, rfl⟩
              rw [hbe] at u0 u1 hB co o0 o1 hbs ⊢
              obtain ⟨left, outs⟩ := b
              simp only at u0 u1 hB co o0 o1 hbs ⊢
              clear hbe
              obtain ⟨x, hxe⟩ : ∃ x, outs.getD q 0 = x := ⟨_, rfl⟩
              obtain ⟨y, hye⟩ : ∃ y, gaps.getD q 0 = y := ⟨_, rfl⟩
              rw [hxe] at co o0 o1 hbs
              rw [hye] at cg hbs
              clear hxe hye
              have u2 : left ≤ 1048576 := by omega
              have u3 : -33554432 ≤ left := by omega
              clear u0 u1 hle hge
              by_cases hl : 0 < left
              · by_cases hxy : x < y
                · rw [if_pos ⟨hl, hxy⟩] at hbs
                  have hB3 := hB.out.set_ q (.int .i64 (x + 1))
                  rw [List.setIfInBounds_toArray, icells_set] at hB3
                  replace hB3 := Lib.hid hB3
                  go_wp2
                  go_roundg (j + 1 - (q + 1))
                  case measure => omega
                  case rel => exact ⟨q + 1, rfl, by omega, by go_num, by rw [hbs.out], by rw [hbs.out]; exact hB3, Lib.hid (hb.out.setCell HGS.out _)⟩
                · rw [if_neg fun h => hxy h.2] at hbs
                  have hxy' : y ≤ x := by omega
                  go_wp2
                  go_roundg (j + 1 - (q + 1))
                  case measure => omega
                  case rel => exact ⟨q + 1, rfl, by omega, by go_num, by rw [hbs.out], by rw [hbs.out]; exact hB, hb⟩
              · rw [if_neg fun h => hl h.1] at hbs
                have hl' : left ≤ 0 := by omega
                go_wp2
                go_roundg (j + 1 - (q + 1))
                case measure => omega
                case rel => exact ⟨q + 1, rfl, by omega, by go_num, by rw [hbs.out], by rw [hbs.out]; exact hB, hb⟩
            · obtain rfl : q = j := by omega
              have hfin : Hid (Sh.shares n gaps = (Sh.bumps gaps L0 (Sh.firsts n gaps) q).2) := Lib.hid (by unfold Sh.shares; rw [hL0.out, HM.out])
              go_wp2
              go_ret2
              exact ⟨go, rfl, by rw [HGO.out]; exact Nat.le_refl _, by rw [hfin.out]; exact hB.out, hb.out⟩
end Go.Proofs.Ytccmafmeblojpaa
