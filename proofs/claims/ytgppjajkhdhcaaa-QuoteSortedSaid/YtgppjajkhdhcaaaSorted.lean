/- The contract of Sorted: floats in their order, in memory of the call's own. -/
import Derived.Test.YtgppjajkhdhcaaaRefN
import Derived.Test.YtgppjajkhdhcaaaSortM
import Derived.Test.YtgppjajkhdhcaaaLay
namespace Go.Proofs.Ytgppjajkhdhcaaa
open Go.RowKit Go.Shelf
/-- A float out of any number. -/
def fenc (x : Nat) : Value := .float .f64 (x % 18446744073709551616)
def cf (x y : Nat) : Int := if Fl.rk (x % 18446744073709551616) < Fl.rk (y % 18446744073709551616) then -1 else if Fl.rk (y % 18446744073709551616) < Fl.rk (x % 18446744073709551616) then 1 else 0
theorem lt_cf (x y : Nat) : ltOf cf x y = decide (Fl.rk (x % 18446744073709551616) < Fl.rk (y % 18446744073709551616)) := by
  unfold ltOf cf
  by_cases h1 : Fl.rk (x % 18446744073709551616) < Fl.rk (y % 18446744073709551616)
  · simp [h1]
  · by_cases h2 : Fl.rk (y % 18446744073709551616) < Fl.rk (x % 18446744073709551616) <;> simp [h1, h2]
theorem swo_cf : Go.Sort.SWO (ltOf cf) where
  irrefl x := by rw [lt_cf]; simp
  trans x y z h1 h2 := by rw [lt_cf] at *; simp only [decide_eq_true_eq] at *; omega
  ntrans x y z h1 h2 := by rw [lt_cf] at *; simp only [decide_eq_false_iff_not] at *; omega
theorem closure_calls (x y : Nat) (W : World) : Calls Try.prog 16 #[fenc x, fenc y] W fun e w' => e = .returned (.int .i64 (cf x y)) ∧ ∃ q, w' = W.drewN q := by
  have hx : x % 18446744073709551616 < 18446744073709551616 := Nat.mod_lt _ (by omega)
  have hy : y % 18446744073709551616 < 18446744073709551616 := Nat.mod_lt _ (by omega)
  unfold fenc cf
  generalize x % 18446744073709551616 = a at hx ⊢
  generalize y % 18446744073709551616 = b at hy ⊢
  have HX := Lib.hid hx
  have HY := Lib.hid hy
  clear hx hy
  by_cases h1 : Fl.rk a < Fl.rk b
  · rw [if_pos h1]
    have L1 : Hid (Fl.bl a b = true) := Lib.hid (decide_eq_true h1)
    clear h1
    go_enter Try.func16, Try.ntmps16
    go_wp2_with (first | (go_at_call 17; (with_reducible refine (less_calls a b _ _ HX.out HY.out L1).mono ?_); rintro e w1 ⟨rfl, rfl⟩))
    go_ret
    exact ⟨rfl, 0, rfl⟩
  · rw [if_neg h1]
    have L1 : Hid (Fl.bl a b = false) := Lib.hid (decide_eq_false h1)
    by_cases h2 : Fl.rk b < Fl.rk a
    · rw [if_pos h2]
      have L2 : Hid (Fl.bl b a = true) := Lib.hid (decide_eq_true h2)
      clear h1 h2
      go_enter Try.func16, Try.ntmps16
      go_wp2_with (first | (go_at_call 17; first | ((with_reducible refine (less_calls a b _ _ HX.out HY.out L1).mono ?_); rintro e w1 ⟨rfl, rfl⟩) | ((with_reducible refine (less_calls b a _ _ HY.out HX.out L2).mono ?_); rintro e w1 ⟨rfl, rfl⟩)))
      go_ret
      exact ⟨rfl, 0, rfl⟩
    · rw [if_neg h2]
      have L2 : Hid (Fl.bl b a = false) := Lib.hid (decide_eq_false h2)
      clear h1 h2
      go_enter Try.func16, Try.ntmps16
      go_wp2_with (first | (go_at_call 17; first | ((with_reducible refine (less_calls a b _ _ HX.out HY.out L1).mono ?_); rintro e w1 ⟨rfl, rfl⟩) | ((with_reducible refine (less_calls b a _ _ HY.out HX.out L2).mono ?_); rintro e w1 ⟨rfl, rfl⟩)))
      go_ret
      exact ⟨rfl, 0, rfl⟩
theorem fenc_cells {S : List Nat} (h : ∀ x ∈ S, x < 18446744073709551616) : S.map fenc = fcells S := by
  unfold fcells fenc
  exact List.map_congr_left fun x hx => by rw [Nat.mod_eq_of_lt (h x hx)]
theorem made_floats (n : Nat) : madeCells (Value.float .f64 0).cells (n * 1) = (fcells (List.replicate n 0)).toArray := by
  apply Array.ext'
  unfold madeCells fcells
  simp [Value.cells]
  rw [List.eq_replicate_iff]
  refine ⟨by simp, fun b hb => ?_⟩
  obtain ⟨x, _, rfl⟩ := List.mem_map.1 hb
  rw [Nat.mod_one]
  rfl
theorem make_floats (n : Nat) (hn : n ≤ 1000000) (w : World) : (Instr.makeSlice 22 (.int .i64 0) (.int .i64 (n : Int))).run Try.prog w = .ok (.slice (some ⟨w.heap.size, 0, none⟩) 0 n) (w.alloc (.cells (fcells (List.replicate n 0)).toArray 25)) := by
  obtain ⟨i0, hi0, hz0, hz1, hz2⟩ := info_parts info_float
  have := run_make (P := Try.prog) w 22 25 i0 _ Try.underlying22 hi0 hz0 .i64 .i64 0 (n : Int) (by omega) (by omega) (by rw [hz2]; omega) (by omega)
  rw [hz1, Int.toNat_natCast, made_floats] at this
  exact this
/-- The sort's contract on a slice of the call's own. -/
theorem sort_calls (w0 wr : World) (g off d n : Nat) (S L : List Nat) (hL : ∀ x ∈ L, x < 18446744073709551616) (hS : S = L.map Fl.on) (h0 : 0 < n) (hm : n ≤ 300) (hmn : Mine w0 wr 1 (.slice (some ⟨g, off, none⟩) n d) n (fcells S)) (hbl : Below w0.heap.size w0 wr) :
    Calls Try.prog 15 #[.slice (some ⟨g, off, none⟩) n d, .func (.func 16) #[] #[]] wr fun e w' => e = .returned (.tuple #[]) ∧ Mine w0 w' 1 (.slice (some ⟨g, off, none⟩) n d) n (fcells (Fl.srt L)) ∧ Below w0.heap.size w0 w' := by
  have hSb : ∀ x ∈ S, x < 18446744073709551616 := fun x hx => by
    rw [hS] at hx
    obtain ⟨y, hy, rfl⟩ := List.mem_map.1 hx
    exact Fl.on_lt (hL y hy)
  have hmn' : Mine w0 wr 1 (.slice (some ⟨g, off, none⟩) n d) n (S.toArray.toList.map fenc) := by rw [List.toList_toArray, fenc_cells hSb]; exact hmn
  obtain ⟨hsz, hH, hg, hg0⟩ := hmn'.holds h0
  have eg : ∀ args w, (callFunc 16 args).run Try.prog w = .ok (.enter 16 args) w := enters_of Try.func16 (by kernel_rfl) rfl
  have hcmp : CmpReads Try.prog 16 #[] fenc cf g off S.toArray.size wr := fun _ _ _ _ x y => closure_calls x y _
  have hcon := Any.slices_SortFunc sortL fenc (fun _ => rfl) cf swo_cf 16 #[] g off d S.toArray wr eg hcmp.lays hH hg (by rw [hsz]; omega)
  change Calls Try.prog 15 _ _ _ at hcon
  rw [hsz] at hcon
  refine hcon.mono fun e w' ⟨he, d', q, os, hp, hs, hw⟩ => ?_
  obtain ⟨p1, -, p3⟩ := hp
  have hd' : d'.size = n := by rw [p1, hsz]
  have hperm : d'.toList.Perm S := by
    have e1 : d'.extract 0 n = d' := by rw [← hd']; simp
    have e2 : S.toArray.extract 0 n = S.toArray := by rw [← hsz]; simp
    rw [e1, e2, List.toList_toArray] at p3
    exact p3
  have hdb : ∀ x ∈ d'.toList, x < 18446744073709551616 := fun x hx => hSb x (hperm.subset hx)
  have hasc : Fl.Asc d'.toList := by
    unfold Fl.Asc
    rw [List.pairwise_iff_getElem]
    intro i j hi hj hij
    have h1 := hs i j (Nat.zero_le _) hij (by simp at hj; omega)
    rw [lt_cf, decide_eq_false_iff_not] at h1
    simp only [Array.length_toList] at hi hj
    rw [getElem!_pos d' i hi, getElem!_pos d' j hj] at h1
    have b1 := hdb d'[i] (by simp)
    have b2 := hdb d'[j] (by simp)
    rw [Nat.mod_eq_of_lt b1, Nat.mod_eq_of_lt b2] at h1
    simp only [Array.getElem_toList]
    omega
  have hfin : d'.toList = Fl.srt L := Fl.srt_of hL (by rw [← hS]; exact hperm) hasc
  refine ⟨he, ?_, ?_⟩
  · rw [hw]
    have := hmn'.sorted (q := q) (os := os) (d' := d') h0 (by rw [hd', hsz])
    rw [fenc_cells hdb, hfin] at this
    exact this
  · rw [hw]; exact below_sorted hbl hg0
set_option maxHeartbeats 2000000 in
theorem sorted_calls (w : World) (A : Option Addr) (c n : Nat) (L : List Nat) (hn : L.length = n) (hm : n ≤ 300) (hb : ∀ x ∈ L, x < 18446744073709551616) (hA : FRow w A L) :
    Calls Try.prog 6 #[.slice A n c] w fun e w' => ∃ B d, e = .returned (.slice B n d) ∧ Mine w w' 1 (.slice B n d) n (fcells (Fl.srt L)) ∧ Below w.heap.size w w' := by
  have HA := Lib.hid hA
  have HN := Lib.hid hn
  have HB := Lib.hid hb
  have hmk := make_floats n (by omega)
  clear hA hn hb
  obtain ⟨i1, hi1, hy0, hy1, hy2⟩ := info_parts info_float
  have HI1 := Lib.hid hi1
  have HY0 := Lib.hid hy0
  have HY1 := Lib.hid hy1
  have HY2 := Lib.hid hy2
  clear hi1 hy0 hy1 hy2
  go_enter Try.func6, Try.ntmps6
  go_upto_region 2 with (fail)
  have hm0 : Hid (Mine w (w.alloc (.cells (fcells (List.replicate n 0)).toArray 25)) 1 (.slice (some ⟨w.heap.size, 0, none⟩) 0 n) 0 (fcells [])) := Lib.hid (Mine.fresh ⟨_, _, heap_alloc_new w _, by simp [fcells], fun j hj => by omega⟩ rfl (Nat.zero_le _) (by unfold maxLen; omega) (Nat.le_refl _))
  have hb0 : Hid (Below w.heap.size w (w.alloc (.cells (fcells (List.replicate n 0)).toArray 25))) := Lib.hid ((Below.refl _ _).alloc (Nat.le_refl _) _)
  generalize w.heap.size = gs0 at hm0 ⊢
  generalize World.alloc w _ = wx at hm0 hb0 ⊢
  clear hmk
  go_wp2
  go_loopg [3, 11] (n + 1) (fun gk s3 s11 wr => ∃ i B d, gk = n + 1 - i ∧ i ≤ n ∧ s11 = .int .i64 (i : Int) ∧ s3 = .slice B i d ∧ Hid (Mine w wr 1 (.slice B i d) i (fcells ((L.take i).map Fl.on))) ∧ Hid (Below w.heap.size w wr))
  case atStart => exact ⟨0, _, n, rfl, Nat.zero_le _, rfl, rfl, hm0, hb0⟩
  case round =>
    clear hm0 hb0
    obtain ⟨i, B, d, rfl, hi, rfl, rfl, hmn, hbl⟩ := hrel
    have i0 : (0 : Int) ≤ (i : Int) := by omega
    by_cases hlt : i < n
    · have hltI : (i : Int) < (n : Int) := by omega
      have hl : i < L.length := by rw [HN.out]; exact hlt
      obtain ⟨ba, oa, rfl⟩ := HA.out.some hl
      have c1 : wr.cell? ⟨ba, oa + i, none⟩ = some (.float .f64 (L.getD i 0)) := by
        obtain ⟨b', o', e, h1, h2⟩ := Row.at_ HA.out hl
        cases e; exact (below_cell hbl.out h1).trans h2
      have hsn : Hid ((L.take (i + 1)).map Fl.on = (L.take i).map Fl.on ++ [Fl.on (L.getD i 0)]) := Lib.hid (by rw [take_snoc hl, List.map_append]; rfl)
      obtain ⟨x, hx⟩ : ∃ x, Hid (Fl.on (L.getD i 0) = x) := ⟨_, Lib.hid rfl⟩
      rw [hx.out] at hsn
      generalize L.getD i 0 = y at c1 hx
      clear hl
      go_wp2_with (first
        | (go_at_call 14; (with_reducible refine (one_calls _ _ _ hx).mono ?_); rintro e w1 ⟨rfl, rfl⟩)
        | (refine wpList_append_mine rfl (.tmp 15) (.tmp 18) 22 22 rfl 25 i1 (.float .f64 0) 8 Try.underlying22 HI1.out HY0.out HY1.out HY2.out rfl (by decide) rfl (hmn.out.alloc _) (hbl.out.alloc hbl.out.size _) _ 1 [.float .f64 x] rfl (src_new Try.underlying22 _ _ _ 1 1 rfl (by simp [Value.oneCell'])) (by unfold maxLen; omega) (by omega) ?_; intro A3 c3 w3 hm3 hb3))
      go_roundg (n + 1 - (i + 1))
      case measure => omega
      case rel => exact ⟨i + 1, A3, c3, rfl, by omega, by go_num, rfl, Lib.hid (by rw [hsn.out, fcells_append]; exact hm3), Lib.hid hb3⟩
    · obtain rfl : i = n := by omega
      rw [List.take_of_length_le (by rw [HN.out]; exact Nat.le_refl _)] at hmn
      clear hlt
      by_cases h0 : i = 0
      · subst h0
        have hL0 : Hid (Fl.srt L = L.map Fl.on) := Lib.hid (by rw [List.eq_nil_of_length_eq_zero HN.out]; rfl)
        have HS := Lib.hid (fun (p : Option Addr) (cap : Nat) (fv : Value) (w1 : World) => show Calls Try.prog 15 #[.slice p 0 cap, fv] w1 _ from AnyF.slices_SortFunc_none { sortL with } p cap fv w1)
        go_wp2_with (first | (go_at_call 15; (with_reducible refine (HS.out _ _ _ _).mono ?_); rintro e w1 ⟨rfl, hw1⟩; cases hw1))
        go_ret
        exact ⟨B, d, rfl, by rw [hL0.out]; exact hmn.out, hbl.out⟩
      · have hs := hmn.out.store (j := 0) (by omega)
        obtain ⟨g, off, rfl, -⟩ := hs
        have HS := Lib.hid (sort_calls w wr g off d i (L.map Fl.on) L HB.out rfl (by omega) hm hmn.out hbl.out)
        clear hmn hbl
        go_wp2_with (first | (go_at_call 15; (with_reducible refine HS.out.mono ?_); rintro e w1 ⟨rfl, h1, h2⟩))
        go_ret
        exact ⟨_, d, rfl, h1, h2⟩
end Go.Proofs.Ytgppjajkhdhcaaa
