/- The walk of QuoteSorted: any floats are told in their order; what is handed in stays. -/
import Derived.Test.YtgppjajkhdhcaaaQuoteBestW
namespace Go.Proofs.Ytgppjajkhdhcaaa
open Go.RowKit
theorem frow_src {w : World} {A : Option Addr} {L : List Nat} {n c : Nat} {P : Program} {tx e : TypeId} (h : FRow w A L) (hn : L.length = n) (ht : P.underlying tx = some (.slice e)) : Src P 1 tx (.slice A n c) n (fcells L) w := by
  rcases h with h | ⟨b, o, rfl, _, h3⟩
  · have hL : L = [] := List.eq_nil_of_length_eq_zero h
    subst hL
    subst hn
    cases A with
    | none => exact Src.ofNil w ht c
    | some a => exact Src.ofSlice w ht a 0 c [] rfl (by simp) (by simp)
  · refine Src.ofSlice w ht _ n c (fcells L) (by simp [fcells, hn]) (fun j u hu => ?_) (fcells_one L)
    have hj : j < L.length := by have := (List.getElem?_eq_some_iff.1 hu).1; simpa [fcells] using this
    rw [show (⟨b, o, none⟩ : Addr).add j = ⟨b, o + j, none⟩ from by simp [Addr.add_lit], h3 j hj, ← hu, fcells_get L hj]
theorem frow_only {w w' : World} {A : Option Addr} {L : List Nat} {g : Nat} (h : FRow w A L) (ho : Only (fun k => k = g) w w') (hne : ∀ b o, A = some ⟨b, o, none⟩ → b ≠ g) : FRow w' A L := by
  rcases h with h | ⟨b, o, h1, h2, h3⟩
  · exact .inl h
  · refine .inr ⟨b, o, h1, Nat.lt_of_lt_of_le h2 ho.size, fun j hj => ?_⟩
    rw [World.cell?_of_block (a := ⟨b, o + j, none⟩) (ho.block b h2 (hne b o h1))]
    exact h3 j hj
/-- What is told, what was handed in, the document's, and the argument. -/
structure QS (w wr : World) (v : Value) (k : Nat) (A1 A2 A : Option Addr) (L S G : List Nat) : Prop where
  got : Mine w wr 1 v k (fcells G)
  apart : ∀ g off d, 0 < k → v = .slice (some ⟨g, off, none⟩) k d → (∀ b o, A1 = some ⟨b, o, none⟩ → b ≠ g) ∧ (∀ b o, A2 = some ⟨b, o, none⟩ → b ≠ g) ∧ (∀ b o, A = some ⟨b, o, none⟩ → b ≠ g)
  mine : FRow wr A1 L
  want : FRow wr A2 S
  arg : FRow wr A L
  all : Below w.heap.size w wr
section
variable {w wr : World} {v : Value} {k : Nat} {A1 A2 A : Option Addr} {L S G : List Nat}
theorem QS.drewN (h : QS w wr v k A1 A2 A L S G) (q : Nat) : QS w (wr.drewN q) v k A1 A2 A L S G := ⟨h.got.drewN q, h.apart, h.mine.drewN q, h.want.drewN q, h.arg.drewN q, below_draw h.all q⟩
theorem QS.put {B : Option Addr} {d : Nat} (h : QS w wr (.slice B k d) k A1 A2 A L S G) {j : Nat} (hj : j < k) : ∃ g off, B = some ⟨g, off, none⟩ ∧ wr.cell? ⟨g, off + j, none⟩ = (fcells G)[j]? ∧ wr.frozen? ⟨g, off + j, none⟩ = false ∧ ∀ x, QS w (wr.setCell ⟨g, off + j, none⟩ (.float .f64 x)) (.slice B k d) k A1 A2 A L S (G.set j x) := by
  obtain ⟨g, off, rfl, hg, hc, hf, hs⟩ := h.got.store hj
  obtain ⟨n1, n2, n3⟩ := h.apart g off d (by omega) rfl
  refine ⟨g, off, rfl, hc, hf, fun x => ⟨?_, h.apart, ?_, ?_, ?_, h.all.setCell (p := ⟨g, off + j, none⟩) hg _⟩⟩
  · have := hs (.float .f64 x)
    rw [fcells_set] at this
    exact this
  all_goals
    have ho : Only (fun k => k = g) wr (wr.setCell ⟨g, off + j, none⟩ (.float .f64 x)) := Only.setCell (S := fun k => k = g) (Only.refl _ wr) (.inl rfl) _
  · exact frow_only h.mine ho n1
  · exact frow_only h.want ho n2
  · exact frow_only h.arg ho n3
end
def spoil (S : List Nat) (i : Nat) : List Nat := List.replicate i 4635118810238550016 ++ S.drop i
theorem spoil_at (S : List Nat) {i : Nat} (h : i < S.length) : (spoil S i).getD i 0 = S.getD i 0 ∧ (spoil S i).set i 4635118810238550016 = spoil S (i + 1) := by
  unfold spoil
  constructor
  · simp only [List.getD_eq_getElem?_getD]
    rw [List.getElem?_append_right (by simp), List.length_replicate, Nat.sub_self, List.getElem?_drop, Nat.add_zero]
  · rw [List.set_append_right _ _ (by simp), List.length_replicate, Nat.sub_self, List.drop_eq_getElem_cons h, List.set_cons_zero, List.replicate_succ', List.append_assoc]; rfl
theorem spoil_length (S : List Nat) {i : Nat} (h : i ≤ S.length) : (spoil S i).length = S.length := by
  unfold spoil; rw [List.length_append, List.length_replicate, List.length_drop]; omega
/-- From where the floats are copied on. -/
theorem sorted_rest (w w1 : World) (A A1 : Option Addr) (k c1 : Nat) (L : List Nat) (hL : L.length = k) (hk : k ≤ 300) (hB : ∀ x ∈ L, x < 18446744073709551616) (hF : FRow w A L) (hm : Mine w w1 1 (.slice A1 k c1) k (fcells L)) (hb1 : Below w.heap.size w w1) :
    Calls Try.prog 6 #[.slice A1 k c1] w1 fun e w3 => ∃ B d, e = .returned (.slice B k d) ∧ Below w.heap.size w w3 ∧ ∀ w4, Below w3.heap.size w3 w4 → ∀ B2 d2, Mine w3 w4 1 (.slice B2 k d2) k (fcells (Fl.srt L)) → QS w w4 (.slice B k d) k A1 B2 A L (Fl.srt L) (Fl.srt L) := by
  refine (sorted_calls w1 A1 c1 k L hL hk hB hm.frow).mono fun e w3 ⟨B, d, he, h1, h2⟩ => ⟨B, d, he, hb1.trans (h2.mono hb1.size), fun w4 hb4 B2 d2 h4 => ⟨(h1.base hb1.size).below hb4, fun g off d' h0 hv => ?_, hm.frow.below (h2.trans (hb4.mono h2.size)), h4.frow, hF.below (hb1.trans ((h2.trans (hb4.mono h2.size)).mono hb1.size)), hb1.trans ((h2.trans (hb4.mono h2.size)).mono hb1.size)⟩⟩
  cases hv
  have lt : ∀ {w0 w : World} {g off d : Nat} {xs : List Value}, Mine w0 w 1 (.slice (some ⟨g, off, none⟩) k d) k xs → w0.heap.size ≤ g ∧ g < w.heap.size := by
    rintro w0 w g off d xs ⟨b', ⟨_, A', c', e2, h6, _, ⟨h3, h5⟩ | ⟨g2, off2, h3, e3, h7, _⟩⟩, hbb⟩
    · cases e2; omega
    · cases e2; cases e3; exact ⟨hbb _ h3, h7⟩
  obtain ⟨l1, l2⟩ := lt h1
  refine ⟨fun b o e => ?_, fun b o e => ?_, fun b o e => ?_⟩
  · subst e
    have := lt hm
    omega
  · subst e
    have := lt h4
    omega
  · obtain ⟨b', o', e2, h6, _⟩ := Row.at_ hF (k := 0) (by omega)
    rw [e] at e2
    cases e2
    have := hb1.size
    omega
set_option maxHeartbeats 4000000 in
theorem QuoteSorted_walk (w : World) (A : Option Addr) (n c : Nat) (Z : Nat → Nat) (hZ : ∀ j, j < n → Z j < 18446744073709551616) (hnc : n ≤ c) (hcm : c ≤ maxLen) (hA : Row w A n fun j => .float .f64 (Z j)) :
    Calls Try.prog 3 #[.slice A n c] w fun e w' => e = .returned (.bool true) ∧ Below w.heap.size w w' := by
  obtain ⟨k, hk⟩ : ∃ k, (300 < n ∧ k = 300) ∨ (n ≤ 300 ∧ k = n) := by
    by_cases h : 300 < n
    · exact ⟨300, .inl ⟨h, rfl⟩⟩
    · exact ⟨n, .inr ⟨by omega, rfl⟩⟩
  have hkn : k ≤ n := by omega
  have hk300 : k ≤ 300 := by omega
  have hF := told_row hA hkn
  have hB := told_bound hZ hkn
  have hL := told_length Z k
  obtain ⟨L, hLe⟩ : ∃ L, told Z k = L := ⟨_, rfl⟩
  rw [hLe] at hF hB hL
  have hA0 : Hid (300 < n → ∃ b o, A = some ⟨b, o, none⟩) := Lib.hid fun h => by
    obtain ⟨b, o, e, _⟩ := Row.at_ hA (k := 0) (by omega)
    exact ⟨b, o, e⟩
  have HMx := Lib.hid hcm
  have HAl := Lib.hid (fun (x : Nat) w => alike_calls x x w true (Lib.hid (by simp)))
  have hRS := Lib.hid (fun w1 (hb : Below w.heap.size w w1) => refsorted_calls w1 A c k L hL hk300 hB (hF.below hb))
  have hQS := Lib.hid (fun w1 A1 c1 => sorted_rest w w1 A A1 k c1 L hL hk300 hB hF)
  have hSl : (Fl.srt L).length = k := by rw [Fl.srt_length, hL]
  have hsrc := Lib.hid (frow_src (c := c) (P := Try.prog) hF hL Try.underlying22)
  have HL := Lib.hid hL
  obtain ⟨S, hS⟩ : ∃ S, Fl.srt L = S := ⟨_, rfl⟩
  rw [hS] at hRS hQS hSl
  have HSL := Lib.hid hSl
  obtain ⟨i1, hi1, hy0, hy1, hy2⟩ := info_parts info_float
  have HI1 := Lib.hid hi1
  have HY0 := Lib.hid hy0
  have HY1 := Lib.hid hy1
  have HY2 := Lib.hid hy2
  clear hA hZ hLe hB hF hcm hkn hL hi1 hy0 hy1 hy2 hS hSl
  rcases hk with ⟨h, hk⟩ | ⟨h, hk⟩
  · obtain ⟨b0, o0, rfl⟩ := hA0.out h
    have hI : (300 : Int) < (n : Int) := by omega
    have hI2 : (300 : Int) ≤ (c : Int) := by omega
    have hkI : Hid ((300 : Nat) = k) := Lib.hid hk.symm
    clear hA0 hk
    go_enter Try.func3, Try.ntmps3
    go_upto_region 3 with (fail)
    rw [hkI.out]
    clear hkI h
    go_upto_region 5 with (first
      | (refine wpList_append_mine rfl (.tmp 13) (.tmp 14) 22 22 rfl 25 i1 (.float .f64 0) 8 Try.underlying22 HI1.out HY0.out HY1.out HY2.out rfl (by decide) rfl (Mine.empty w w 1 none) (Below.refl _ _) _ k (fcells L) rfl hsrc.out (by unfold maxLen; omega) (by omega) ?_; intro A1 c1 w1 hm1 hb1))
    rw [Nat.zero_add] at hm1
    have hq1 := Lib.hid (hQS.out w1 A1 c1 hm1 hb1)
    clear hm1 hb1 hQS hsrc
    go_upto_region 6 with (first
      | (go_at_call 6; (refine hq1.out.mono ?_); rintro e w3 ⟨B, d, rfl, hb3, hq3⟩; replace hb3 := Lib.hid hb3; replace hq3 := Lib.hid hq3)
      | (go_at_call 7; (with_reducible refine (hRS.out _ hb3.out).mono ?_); rintro e w4 ⟨B2, d2, rfl, h4, hb4⟩))
    have Q0 : Hid (QS w w4 (.slice B k d) k A1 B2 (some ⟨b0, o0, none⟩) L S (spoil S 0)) := Lib.hid (hq3.out w4 hb4 B2 d2 h4)
    clear hq1 hq3 hb3 h4 hb4 hRS
    go_wp2
    go_loopg [6] (k + 1) (fun gk s6 wr => ∃ i, gk = k + 1 - i ∧ i ≤ k ∧ s6 = .int .i64 (i : Int) ∧ Hid (QS w wr (.slice B k d) k A1 B2 (some ⟨b0, o0, none⟩) L S (spoil S i)))
    case atStart => exact ⟨0, rfl, Nat.zero_le _, rfl, Q0⟩
    case round =>
      clear Q0
      obtain ⟨i, rfl, hi, rfl, Q⟩ := hrel
      have i0 : (0 : Int) ≤ (i : Int) := by omega
      by_cases hlt : i < k
      · have hltI : (i : Int) < (k : Int) := by omega
        have hSi : i < S.length := by rw [HSL.out]; exact hlt
        have hLi : i < L.length := by rw [HL.out]; exact hlt
        obtain ⟨e1, e2⟩ := spoil_at S hSi
        have E2 := Lib.hid e2
        obtain ⟨g, off, rfl, cg, -, -⟩ := Q.out.put hlt
        rw [fcells_get _ (by rw [spoil_length S (by omega)]; exact hSi), e1] at cg
        have hst := Lib.hid (fun wy (h : QS w wy (.slice (some ⟨g, off, none⟩) k d) k A1 B2 (some ⟨b0, o0, none⟩) L S (spoil S i)) => show wy.frozen? ⟨g, off + i, none⟩ = false ∧ wy.cell? ⟨g, off + i, none⟩ = some (.float .f64 (S.getD i 0)) ∧ ∀ x, QS w (wy.setCell ⟨g, off + i, none⟩ (.float .f64 x)) (.slice (some ⟨g, off, none⟩) k d) k A1 B2 (some ⟨b0, o0, none⟩) L S ((spoil S i).set i x) by
          obtain ⟨g', off', e, hc, hf, hs⟩ := h.put hlt
          cases e
          exact ⟨hf, by rw [hc, fcells_get _ (by rw [spoil_length S (by omega)]; exact hSi), e1], hs⟩)
        obtain ⟨bw, ow, rfl⟩ := Q.out.want.some hSi
        have cw := Q.out.want.cell hSi
        obtain ⟨bm, om, rfl⟩ := Q.out.mine.some hLi
        have cm := Q.out.mine.cell hLi
        have ca : wr.cell? ⟨b0, o0 + i, none⟩ = some (.float .f64 (L.getD i 0)) := Q.out.arg.cell hLi
        generalize S.getD i 0 = x at cg cw hst
        generalize L.getD i 0 = y at cm ca
        clear e1 e2 hSi hLi
        go_wp2
        go_quiet ((go_at_call 8; (with_reducible refine (HAl.out _ _).mono ?_); rintro e w' ⟨rfl, rfl⟩; first | exact ⟨rfl, _, rfl⟩ | exact ⟨rfl, 0, rfl⟩))
        go_upto_region 13 with (fail)
        generalize hwy : World.drewN _ _ = wy
        have Q1 : Hid (QS w wy (.slice (some ⟨g, off, none⟩) k d) k (some ⟨bm, om, none⟩) (some ⟨bw, ow, none⟩) (some ⟨b0, o0, none⟩) L S (spoil S i)) := Lib.hid (by rw [← hwy]; exact Q.out.drewN _)
        obtain ⟨fo, cg2, hs⟩ := hst.out wy Q1.out
        have Q2 := Lib.hid (hs 4635118810238550016)
        rw [E2.out] at Q2
        have hsf : (store ⟨g, off + i, none⟩ (.float .f64 4635118810238550016)).run Try.prog wy = .ok () (wy.setCell ⟨g, off + i, none⟩ (.float .f64 4635118810238550016)) := by
          rw [run_store _ _ _ _ _ rfl, cg2, fo]; rfl
        clear hwy cg cw cm ca Q Q1 hs hst
        go_wp2
        go_roundg (k + 1 - (i + 1))
        case measure => omega
        case rel => exact ⟨i + 1, rfl, by omega, by go_num, Q2⟩
      · obtain rfl : i = k := by omega
        go_wp2
        go_loopg [7] (i + 1) (fun gk s7 wr => ∃ j, gk = i + 1 - j ∧ j ≤ i ∧ s7 = .int .i64 (j : Int) ∧ Hid (QS w wr (.slice B i d) i A1 B2 (some ⟨b0, o0, none⟩) L S (spoil S i)))
        case atStart => exact ⟨0, rfl, Nat.zero_le _, rfl, Q⟩
        case round =>
          clear Q
          obtain ⟨j, rfl, hj, rfl, Q⟩ := hrel
          have j0 : (0 : Int) ≤ (j : Int) := by omega
          by_cases hlt2 : j < i
          · have hltI : (j : Int) < (i : Int) := by omega
            have hLi : j < L.length := by rw [HL.out]; exact hlt2
            obtain ⟨bm, om, rfl⟩ := Q.out.mine.some hLi
            have cm := Q.out.mine.cell hLi
            have ca : wr.cell? ⟨b0, o0 + j, none⟩ = some (.float .f64 (L.getD j 0)) := Q.out.arg.cell hLi
            generalize L.getD j 0 = y at cm ca
            clear hLi
            go_wp2
            go_quiet ((go_at_call 8; (with_reducible refine (HAl.out _ _).mono ?_); rintro e w' ⟨rfl, rfl⟩; first | exact ⟨rfl, _, rfl⟩ | exact ⟨rfl, 0, rfl⟩))
            go_wp2
            go_roundg (i + 1 - (j + 1))
            case measure => omega
            case rel => exact ⟨j + 1, rfl, by omega, by go_num, Lib.hid (Q.out.drewN _)⟩
          · obtain rfl : j = i := by omega
            go_wp2_with (first | (go_at_call 9; (with_reducible refine (awake_calls _).mono ?_); rintro e w5 ⟨rfl, nd, rfl⟩))
            go_ret
            exact ⟨rfl, below_draw Q.out.all _⟩
  · have hI : (n : Int) ≤ 300 := by omega
    have hkI : Hid (n = k) := Lib.hid hk.symm
    clear hA0 hk
    go_enter Try.func3, Try.ntmps3
    go_upto_region 3 with (fail)
    rw [hkI.out]
    clear hkI h
    go_upto_region 5 with (first
      | (refine wpList_append_mine rfl (.tmp 13) (.tmp 14) 22 22 rfl 25 i1 (.float .f64 0) 8 Try.underlying22 HI1.out HY0.out HY1.out HY2.out rfl (by decide) rfl (Mine.empty w w 1 none) (Below.refl _ _) _ k (fcells L) rfl hsrc.out (by unfold maxLen; omega) (by omega) ?_; intro A1 c1 w1 hm1 hb1))
    rw [Nat.zero_add] at hm1
    have hq1 := Lib.hid (hQS.out w1 A1 c1 hm1 hb1)
    clear hm1 hb1 hQS hsrc
    go_upto_region 6 with (first
      | (go_at_call 6; (refine hq1.out.mono ?_); rintro e w3 ⟨B, d, rfl, hb3, hq3⟩; replace hb3 := Lib.hid hb3; replace hq3 := Lib.hid hq3)
      | (go_at_call 7; (with_reducible refine (hRS.out _ hb3.out).mono ?_); rintro e w4 ⟨B2, d2, rfl, h4, hb4⟩))
    have Q0 : Hid (QS w w4 (.slice B k d) k A1 B2 A L S (spoil S 0)) := Lib.hid (hq3.out w4 hb4 B2 d2 h4)
    clear hq1 hq3 hb3 h4 hb4 hRS
    go_wp2
    go_loopg [6] (k + 1) (fun gk s6 wr => ∃ i, gk = k + 1 - i ∧ i ≤ k ∧ s6 = .int .i64 (i : Int) ∧ Hid (QS w wr (.slice B k d) k A1 B2 A L S (spoil S i)))
    case atStart => exact ⟨0, rfl, Nat.zero_le _, rfl, Q0⟩
    case round =>
      clear Q0
      obtain ⟨i, rfl, hi, rfl, Q⟩ := hrel
      have i0 : (0 : Int) ≤ (i : Int) := by omega
      by_cases hlt : i < k
      · have hltI : (i : Int) < (k : Int) := by omega
        have hSi : i < S.length := by rw [HSL.out]; exact hlt
        have hLi : i < L.length := by rw [HL.out]; exact hlt
        obtain ⟨e1, e2⟩ := spoil_at S hSi
        have E2 := Lib.hid e2
        obtain ⟨g, off, rfl, cg, -, -⟩ := Q.out.put hlt
        rw [fcells_get _ (by rw [spoil_length S (by omega)]; exact hSi), e1] at cg
        have hst := Lib.hid (fun wy (h : QS w wy (.slice (some ⟨g, off, none⟩) k d) k A1 B2 A L S (spoil S i)) => show wy.frozen? ⟨g, off + i, none⟩ = false ∧ wy.cell? ⟨g, off + i, none⟩ = some (.float .f64 (S.getD i 0)) ∧ ∀ x, QS w (wy.setCell ⟨g, off + i, none⟩ (.float .f64 x)) (.slice (some ⟨g, off, none⟩) k d) k A1 B2 A L S ((spoil S i).set i x) by
          obtain ⟨g', off', e, hc, hf, hs⟩ := h.put hlt
          cases e
          exact ⟨hf, by rw [hc, fcells_get _ (by rw [spoil_length S (by omega)]; exact hSi), e1], hs⟩)
        obtain ⟨bw, ow, rfl⟩ := Q.out.want.some hSi
        have cw := Q.out.want.cell hSi
        obtain ⟨bm, om, rfl⟩ := Q.out.mine.some hLi
        have cm := Q.out.mine.cell hLi
        obtain ⟨ba, oa, hae⟩ := Q.out.arg.some hLi
        have ca : wr.cell? ⟨ba, oa + i, none⟩ = some (.float .f64 (L.getD i 0)) := by
          have := Q.out.arg
          rw [hae] at this
          exact this.cell hLi
        subst hae
        generalize S.getD i 0 = x at cg cw hst
        generalize L.getD i 0 = y at cm ca
        clear e1 e2 hSi hLi
        go_wp2
        go_quiet ((go_at_call 8; (with_reducible refine (HAl.out _ _).mono ?_); rintro e w' ⟨rfl, rfl⟩; first | exact ⟨rfl, _, rfl⟩ | exact ⟨rfl, 0, rfl⟩))
        go_upto_region 13 with (fail)
        generalize hwy : World.drewN _ _ = wy
        have Q1 : Hid (QS w wy (.slice (some ⟨g, off, none⟩) k d) k (some ⟨bm, om, none⟩) (some ⟨bw, ow, none⟩) (some ⟨ba, oa, none⟩) L S (spoil S i)) := Lib.hid (by rw [← hwy]; exact Q.out.drewN _)
        obtain ⟨fo, cg2, hs⟩ := hst.out wy Q1.out
        have Q2 := Lib.hid (hs 4635118810238550016)
        rw [E2.out] at Q2
        have hsf : (store ⟨g, off + i, none⟩ (.float .f64 4635118810238550016)).run Try.prog wy = .ok () (wy.setCell ⟨g, off + i, none⟩ (.float .f64 4635118810238550016)) := by
          rw [run_store _ _ _ _ _ rfl, cg2, fo]; rfl
        clear hwy cg cw cm ca Q Q1 hs hst
        go_wp2
        go_roundg (k + 1 - (i + 1))
        case measure => omega
        case rel => exact ⟨i + 1, rfl, by omega, by go_num, Q2⟩
      · obtain rfl : i = k := by omega
        go_wp2
        go_loopg [7] (i + 1) (fun gk s7 wr => ∃ j, gk = i + 1 - j ∧ j ≤ i ∧ s7 = .int .i64 (j : Int) ∧ Hid (QS w wr (.slice B i d) i A1 B2 A L S (spoil S i)))
        case atStart => exact ⟨0, rfl, Nat.zero_le _, rfl, Q⟩
        case round =>
          clear Q
          obtain ⟨j, rfl, hj, rfl, Q⟩ := hrel
          have j0 : (0 : Int) ≤ (j : Int) := by omega
          by_cases hlt2 : j < i
          · have hltI : (j : Int) < (i : Int) := by omega
            have hLi : j < L.length := by rw [HL.out]; exact hlt2
            obtain ⟨bm, om, rfl⟩ := Q.out.mine.some hLi
            have cm := Q.out.mine.cell hLi
            obtain ⟨ba, oa, hae⟩ := Q.out.arg.some hLi
            have ca : wr.cell? ⟨ba, oa + j, none⟩ = some (.float .f64 (L.getD j 0)) := by
              have := Q.out.arg
              rw [hae] at this
              exact this.cell hLi
            subst hae
            generalize L.getD j 0 = y at cm ca
            clear hLi
            go_wp2
            go_quiet ((go_at_call 8; (with_reducible refine (HAl.out _ _).mono ?_); rintro e w' ⟨rfl, rfl⟩; first | exact ⟨rfl, _, rfl⟩ | exact ⟨rfl, 0, rfl⟩))
            go_wp2
            go_roundg (i + 1 - (j + 1))
            case measure => omega
            case rel => exact ⟨j + 1, rfl, by omega, by go_num, Lib.hid (Q.out.drewN _)⟩
          · obtain rfl : j = i := by omega
            go_wp2_with (first | (go_at_call 9; (with_reducible refine (awake_calls _).mono ?_); rintro e w5 ⟨rfl, nd, rfl⟩))
            go_ret
            exact ⟨rfl, below_draw Q.out.all _⟩
end Go.Proofs.Ytgppjajkhdhcaaa
