/- The reference's New. -/
import Derived.Test.YthhjockofihohaaRefM
import Derived.Test.YthhjockofihohaaLedE
namespace Go.Proofs.Ythhjockofihohaa
open Go.RowKit
theorem Blk.grown {w w' : World} {g : Nat} {t : TypeId} {cs : Array Value} {r : Option Nat} (h : Blk w g t cs) (hg : w.grownBy w' r) (hr : r ≠ some g) : Blk w' g t cs :=
  (hg.block g h.lt (Ne.symm hr)).trans h
theorem fresh_more (i : Nat) (k : Int) : lcells (Led.fresh i k) ++ [.int .i64 0, .int .i64 0, .int .i64 0, .int .i64 0, .int .i64 0, .int .i64 0, .int .i64 0, .int .i64 0, .int .i64 0, .int .i64 0, .int .i64 0, .string ⟨#[]⟩] = lcells (Led.fresh (i + 1) k) := by
  unfold lcells Led.fresh
  simp only
  rw [Nat.succ_mul, List.range_add, List.map_append]
  congr 1
  rw [List.map_map]
  show _ = List.map _ (List.range 12)
  have : ∀ j ∈ List.range 12, ((fun j => if j % 12 = 11 then Value.string ⟨#[]⟩ else Value.int .i64 0) ∘ (fun x => i * 12 + x)) j = (if j = 11 then Value.string ⟨#[]⟩ else Value.int .i64 0) := fun j hj => by
    have hj2 : j < 12 := by simpa using hj
    show (if (i * 12 + j) % 12 = 11 then Value.string ⟨#[]⟩ else Value.int .i64 0) = _
    rw [show (i * 12 + j) % 12 = j from by omega]
  rw [List.map_congr_left this]
  rfl
theorem rnew_calls (n : Nat) (k : Int) (w : World) (h1 : 1 ≤ n ∧ n ≤ 16) (h2 : 1 ≤ k ∧ k ≤ 4) :
    Calls Try.prog 14 #[.int .i64 (n : Int), .int .i64 k] w fun e w' => ∃ b o c, e = .returned (.tuple #[.agg #[.int .i64 k, .slice (some ⟨b, o, none⟩) n c], .bool true]) ∧ RAt w' (some ⟨b, o, none⟩) (Led.fresh n k) ∧ Below w.heap.size w w' := by
  obtain ⟨n1, n2⟩ := h1
  obtain ⟨k1, k2⟩ := h2
  have m1 : (1 : Int) ≤ (n : Int) := by omega
  have m2 : (n : Int) ≤ 16 := by omega
  obtain ⟨i1, hi1, hy0, hy1, hy2⟩ := info_parts info_acc
  have HI1 := Lib.hid hi1
  have HY0 := Lib.hid hy0
  have HY1 := Lib.hid hy1
  have HY2 := Lib.hid hy2
  clear hi1 hy0 hy1 hy2
  have q1 : decide ((n : Int) < 1) = false := by simpa using m1
  have q2 : decide ((16 : Int) < (n : Int)) = false := by simpa using m2
  have q3 : decide (k < 1) = false := by simpa using k1
  have q4 : decide (4 < k) = false := by simpa using k2
  go_enter Try.func14, Try.ntmps14
  go_upto_region 4 with (fail)
  have hb0 : Hid (Below w.heap.size w ((w.alloc (.cells #[.int .i64 0, .slice none 0 0] 44)).alloc (.cells #[.int .i64 0, .slice none 0 0] 44))) := Lib.hid (((Below.refl _ _).alloc (Nat.le_refl _) _).alloc (by simp) _)
  have B1 : Hid (Blk ((w.alloc (.cells #[.int .i64 0, .slice none 0 0] 44)).alloc (.cells #[.int .i64 0, .slice none 0 0] 44)) w.heap.size 44 #[.int .i64 0, .slice none 0 0]) := Lib.hid ((Blk.new _ _ _).alloc _)
  have B2 : Hid (Blk ((w.alloc (.cells #[.int .i64 0, .slice none 0 0] 44)).alloc (.cells #[.int .i64 0, .slice none 0 0] 44)) (w.heap.size + 1) 44 #[.int .i64 0, .slice none 0 0]) := Lib.hid (by have := Blk.new (w.alloc (.cells #[.int .i64 0, .slice none 0 0] 44)) 44 #[.int .i64 0, .slice none 0 0]; simpa using this)
  obtain ⟨g1, hg1⟩ : ∃ g1, w.heap.size = g1 := ⟨_, rfl⟩
  have HG := Lib.hid hg1
  rw [hg1] at B1 B2 ⊢
  clear hg1
  generalize World.alloc (World.alloc w _) _ = wy at hb0 B1 B2 ⊢
  have f0 := B2.out.frozen 0
  have v0 : wy.cell? ⟨g1 + 1, 0, none⟩ = some (.int .i64 0) := B2.out.cell 0
  go_upto_region 5 with (fail)
  have B1' : Hid (Blk (wy.setCell ⟨g1 + 1, 0, none⟩ (.int .i64 k)) g1 44 #[.int .i64 0, .slice none 0 0]) := Lib.hid (B1.out.far (by omega) _)
  have B2' : Hid (Blk (wy.setCell ⟨g1 + 1, 0, none⟩ (.int .i64 k)) (g1 + 1) 44 #[.int .i64 k, .slice none 0 0]) := Lib.hid (B2.out.set_ 0 _)
  have hb1 : Hid (Below w.heap.size w (wy.setCell ⟨g1 + 1, 0, none⟩ (.int .i64 k))) := Lib.hid (hb0.out.setCell (by rw [HG.out]; exact Nat.le_succ _) _)
  clear f0 v0 hb0 B1 B2
  generalize World.setCell wy _ _ = wz at B1' B2' hb1 ⊢
  go_wp2
  go_loopg [7] (n + 1) (fun gk s7 wr => ∃ (i c : Nat) (A : Option Addr) (b : Option Nat), gk = n + 1 - i ∧ i ≤ n ∧ s7 = .int .i64 (i : Int) ∧ Hid (Below w.heap.size w wr) ∧ Hid (Blk wr g1 44 #[.int .i64 0, .slice none 0 0]) ∧ Hid (Blk wr (g1 + 1) 44 #[.int .i64 k, .slice A i c]) ∧ Hid (Own wr 12 (.slice A i c) b i (lcells (Led.fresh i k))) ∧ Hid (∀ g, b = some g → g1 + 2 ≤ g))
  case atStart => exact ⟨0, 0, none, none, rfl, Nat.zero_le _, rfl, hb1, B1', B2', Lib.hid (Own.none_ _ _), Lib.hid (fun _ h => nomatch h)⟩
  case round =>
    obtain ⟨i, c, A, b, rfl, hi, rfl, hb, hB1, hB2, hO, hbb⟩ := hrel
    have i0 : (0 : Int) ≤ (i : Int) := by omega
    have x0 : wr.cell? ⟨g1 + 1, 0, none⟩ = some (.int .i64 k) := hB2.out.cell 0
    have x1 : wr.cell? ⟨g1 + 1, 1, none⟩ = some (.slice A i c) := hB2.out.cell 1
    by_cases hlt : i < n
    · have hltI : (i : Int) < (n : Int) := by omega
      go_wp2_with (first
        | (refine wpList_append_own2 rfl (.tmp 31) (.tmp 33) 42 42 rfl 69 i1 (.agg #[.int .i64 0, .int .i64 0, .int .i64 0, .int .i64 0, .int .i64 0, .int .i64 0, .int .i64 0, .int .i64 0, .int .i64 0, .int .i64 0, .int .i64 0, .string ⟨#[]⟩]) 104 Try.underlying42 HI1.out HY0.out HY1.out HY2.out rfl (by decide) rfl (hO.out.below ((Below.refl wr.heap.size wr).alloc (Nat.le_refl _) _)) _ 1 [.int .i64 0, .int .i64 0, .int .i64 0, .int .i64 0, .int .i64 0, .int .i64 0, .int .i64 0, .int .i64 0, .int .i64 0, .int .i64 0, .int .i64 0, .string ⟨#[]⟩] rfl (src_new Try.underlying42 _ _ _ 1 1 rfl (by simp [Value.oneCell'])) (by unfold maxLen; omega) (by omega) ?_; intro A2 c2 w2 b2 ho2 hg2 hbb2; rw [fresh_more] at ho2; have C1 := Lib.hid ((hB1.out.alloc _).grown hg2 (fun e => by have := hbb.out _ e; omega)); have C2 := Lib.hid ((hB2.out.alloc _).grown hg2 (fun e => by have := hbb.out _ e; omega)); have HO2 := Lib.hid ho2; have HBz := Lib.hid (below_grown (hb.out.alloc hb.out.size _) hg2 (fun g e => by have := hbb.out g e; rw [HG.out]; omega)); have HB2 := Lib.hid (show ∀ g, b2 = some g → g1 + 2 ≤ g from fun g e => by
            rcases hbb2 with h | h
            · exact hbb.out g (h ▸ e)
            · rw [h] at e; cases e; have := hB2.out.lt; simp; omega); have z1 := C2.out.cell 1; have z2 := C2.out.frozen 1; clear ho2 hg2 hbb2; simp only [List.getElem?_toArray, List.getElem?_cons_zero, List.getElem?_cons_succ] at z1))
      go_roundg (n + 1 - (i + 1))
      case measure => omega
      case rel =>
        refine ⟨i + 1, c2, A2, b2, rfl, by omega, by go_num, Lib.hid ?_, Lib.hid ?_, Lib.hid ?_, Lib.hid ?_, HB2⟩
        · exact HBz.out.setCell (by rw [HG.out]; exact Nat.le_succ _) _
        · exact C1.out.far (by omega) _
        · exact C2.out.set_ 1 _
        · exact HO2.out.carry (by simp) (fun g e => heap_setCell_other _ ⟨g1 + 1, 1, none⟩ g _ (show g ≠ g1 + 1 from by have := HB2.out g e; omega))
    · obtain rfl : i = n := by omega
      have y0 : wr.cell? ⟨g1, 0, none⟩ = some (.int .i64 0) := hB1.out.cell 0
      have y1 : wr.cell? ⟨g1, 1, none⟩ = some (.slice none 0 0) := hB1.out.cell 1
      have z0 := hB1.out.frozen 0
      have z1 := hB1.out.frozen 1
      go_wp2
      (try simp only [Exit.inBlock, Exit.then])
      refine bodyPost_ret (by simp [results, Try.results14, asAddr, go_sem, y0, y1]; rfl) rfl ?_
      have hbz : Below w.heap.size w ((wr.setCell ⟨g1, 0, none⟩ (.int .i64 k)).setCell ⟨g1, 1, none⟩ (.slice A i c)) := (hb.out.setCell (by rw [HG.out]; exact Nat.le_refl _) _).setCell (by rw [HG.out]; exact Nat.le_refl _) _
      obtain ⟨hl, A', c', heq, q1, q2, hrest⟩ := hO.out
      cases heq
      rcases hrest with ⟨-, h⟩ | ⟨g, off, e, rfl, hg, hfz, hcl⟩
      · omega
      · have hne : g ≠ g1 := by have := hbb.out g e; omega
        refine ⟨g, off, c, rfl, ⟨g, off, rfl, by simpa using hg, fun j hj => ?_⟩, hbz⟩
        rw [World.cell?_setCell_other _ _ _ _ (by first | (simp; done) | (simp [hne]; done)), World.cell?_setCell_other _ _ _ _ (by first | (simp; done) | (simp [hne]; done))]
        exact hcl j hj
theorem rnew_bad (n k : Int) (w : World) (h : ¬ (1 ≤ n ∧ n ≤ 16 ∧ 1 ≤ k ∧ k ≤ 4)) :
    Calls Try.prog 14 #[.int .i64 n, .int .i64 k] w fun e w' => e = .returned (.tuple #[.agg #[.int .i64 0, .slice none 0 0], .bool false]) ∧ Below w.heap.size w w' := by
  have hw : Hid (Below w.heap.size w ((w.alloc (.cells #[.int .i64 0, .slice none 0 0] 44)).alloc (.cells #[.int .i64 0, .slice none 0 0] 44))) := Lib.hid (((Below.refl _ _).alloc (Nat.le_refl _) _).alloc (by simp) _)
  by_cases a : n < 1
  · clear h
    go_enter Try.func14, Try.ntmps14
    go_wp2
    (try simp only [Exit.inBlock, Exit.then])
    refine bodyPost_ret (by simp [results, Try.results14, asAddr, go_sem]; rfl) rfl ?_
    exact ⟨rfl, hw.out⟩
  · have aB : decide (n < 1) = false := by simpa using a
    by_cases b : 16 < n
    · clear h
      go_enter Try.func14, Try.ntmps14
      go_wp2
      (try simp only [Exit.inBlock, Exit.then])
      refine bodyPost_ret (by simp [results, Try.results14, asAddr, go_sem]; rfl) rfl ?_
      exact ⟨rfl, hw.out⟩
    · have bB : decide (16 < n) = false := by simpa using b
      by_cases c : k < 1
      · clear h
        go_enter Try.func14, Try.ntmps14
        go_wp2
        (try simp only [Exit.inBlock, Exit.then])
        refine bodyPost_ret (by simp [results, Try.results14, asAddr, go_sem]; rfl) rfl ?_
        exact ⟨rfl, hw.out⟩
      · have cB : decide (k < 1) = false := by simpa using c
        have d : 4 < k := by omega
        clear h
        go_enter Try.func14, Try.ntmps14
        go_wp2
        (try simp only [Exit.inBlock, Exit.then])
        refine bodyPost_ret (by simp [results, Try.results14, asAddr, go_sem]; rfl) rfl ?_
        exact ⟨rfl, hw.out⟩
end Go.Proofs.Ythhjockofihohaa
