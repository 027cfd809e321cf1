/- The reference's book: Clear. -/
import Derived.Test.YtilbhnloelgpdaaRefB
import Derived.Test.YtilbhnloelgpdaaRFills
import Derived.Test.YtilbhnloelgpdaaGOrd
namespace Go.Proofs.Ytilbhnloelgpdaa
open Go.RowKit
set_option linter.unusedVariables false
set_option linter.unusedSimpArgs false
theorem Mine.past {w0 wr wi : World} {sz n g : Nat} {v : Value} {xs : List Value} (h : Mine w0 wr sz v n xs) {o : Obj} (hg : wr.heap.size = g) (ho : Only (fun k => k = g) (wr.alloc o) wi) : Mine w0 wi sz v n xs := by
  refine h.carry (Nat.le_trans (by simp) ho.size) fun k _ hk => ?_
  exact (ho.block k (by simp; omega) (fun e => by omega)).trans (by first | exact heap_alloc_old wr _ k hk | exact heap_alloc_old wr _ hk)
theorem rgot_take (F : List Fil) (id : Int) {k : Nat} (h : k < F.length) : Bk.got (F.take (k + 1)) id = Bk.got (F.take k) id + (if (F.getD k fil0).id = id then (F.getD k fil0).amount else 0) := by
  rw [List.take_succ_eq_append_getElem h, Ca.got_append, List.getD_eq_getElem?_getD, List.getElem?_eq_getElem h]
  congr 1
  rw [Bk.got_cons]
  simp [Bk.got]
theorem rgot_bound {F : List Fil} (hF : ∀ f ∈ F, 0 ≤ f.amount ∧ f.amount ≤ 1048576) (id : Int) : ∀ k : Nat, 0 ≤ Bk.got (F.take k) id ∧ Bk.got (F.take k) id ≤ 1048576 * k
  | 0 => by simp [Bk.got]
  | k + 1 => by
    have ih := rgot_bound hF id k
    by_cases h : k < F.length
    · rw [rgot_take F id h]
      have hm : F.getD k fil0 ∈ F := by rw [List.getD_eq_getElem?_getD, List.getElem?_eq_getElem h]; exact List.getElem_mem h
      have := hF _ hm
      push_cast
      split <;> omega
    · rw [List.take_of_length_le (by omega), ← List.take_of_length_le (l := F) (i := k) (by omega)]; push_cast; omega
/-- What is left of an order. -/
def lessen (F : List Fil) (o : Ord) : Ord := { o with amount := o.amount - Bk.got F o.id }
def raft (F : List Fil) (L : List Ord) : List Ord := (L.map (lessen F)).filter fun o => decide (0 < o.amount)
theorem raft_next (F : List Fil) (L : List Ord) {i : Nat} (h : i < L.length) : raft F (L.take (i + 1)) = raft F (L.take i) ++ (if 0 < (lessen F (L.getD i ord0)).amount then [lessen F (L.getD i ord0)] else []) := by
  unfold raft
  rw [Ca.take_at L h, List.map_append, List.filter_append]
  congr 1
  show List.filter _ [lessen F (L.getD i ord0)] = _
  generalize lessen F (L.getD i ord0) = q
  by_cases hp : 0 < q.amount
  · rw [if_pos hp, List.filter_cons_of_pos (by simpa using hp)]; rfl
  · rw [if_neg hp, List.filter_cons_of_neg (by simpa using hp)]; rfl
theorem raft_few (F : List Fil) (L : List Ord) (i : Nat) : (raft F (L.take i)).length ≤ i := by
  unfold raft
  have := List.length_filter_le (fun o : Ord => decide (0 < o.amount)) ((L.take i).map (lessen F))
  rw [List.length_map, List.length_take] at this
  omega
theorem raft_after {b : Bk} (h : b.Ok) : raft b.clear.2.2 b.l = b.clear.1.l := by
  show raft (Ca.fills b.l (Ca.cross b.l).1 (Ca.cross b.l).2) b.l = Bk.after b.l (Ca.fills b.l (Ca.cross b.l).1 (Ca.cross b.l).2)
  have hr := fun {o : Ord} (ho : o ∈ b.l) => Bk.got_range h (Ca.cross b.l).1 (Ca.cross b.l).2 ho
  generalize Ca.fills b.l (Ca.cross b.l).1 (Ca.cross b.l).2 = F at *
  unfold raft Bk.after
  have e : F.foldl Bk.less b.l = b.l.map (lessen F) := by
    apply List.ext_getElem
    · rw [Bk.fold_length, List.length_map]
    · intro i h1 h2
      rw [Bk.fold_length] at h1
      have := Bk.fold_at F b.l h.ids h1
      rw [List.getD_eq_getElem?_getD, List.getD_eq_getElem?_getD, List.getElem?_eq_getElem (by rw [Bk.fold_length]; exact h1), List.getElem?_eq_getElem h1] at this
      rw [List.getElem_map]
      exact this
  rw [e]
  refine List.filter_congr fun o ho => ?_
  obtain ⟨q, hq, rfl⟩ := List.mem_map.1 ho
  have := hr hq
  unfold lessen
  simp only
  by_cases hz : q.amount - Bk.got F q.id = 0
  · rw [hz]; rfl
  · have h2 : 0 < q.amount - Bk.got F q.id := by omega
    rw [decide_eq_true h2]
    have h3 : (q.amount - Bk.got F q.id == 0) = false := by simpa using hz
    rw [h3]; rfl
/-- A cleared book of the reference, its price and amount, and the fills. -/
def RClrTo (w : World) (L : List Ord) (nx P N : Int) (F : List Fil) (e : Ending) (w' : World) : Prop :=
  ∃ A c Af cf, e = .returned (.tuple #[.agg #[.slice A L.length c, .int .i64 nx], .int .i64 P, .int .i64 N, .slice Af F.length cf]) ∧ Mine w w' 6 (.slice A L.length c) L.length (ocells L) ∧ Mine w w' 3 (.slice Af F.length cf) F.length (fcells F) ∧ Below w.heap.size w w'
def RClr (w : World) (b : Bk) : Ending → World → Prop := RClrTo w b.clear.1.l b.clear.1.next b.clear.2.1.1 b.clear.2.1.2 b.clear.2.2
set_option maxHeartbeats 16000000 in
set_option maxRecDepth 100000 in
theorem rclear_calls (w : World) (A : Option Addr) (b : Bk) (c : Nat) (h : ORow w A b.l) (hok : b.Ok) :
    Calls Try.prog 51 #[rval A c b] w (RClr w b) := by
  have hl := hok.few
  have hra := Lib.hid (raft_after hok)
  have hcr := Ca.cross_range b.l
  have hff : b.clear.2.2.length ≤ 128 := Ca.fills_few _ _ _
  have hfa : Hid (∀ f ∈ b.clear.2.2, 0 ≤ f.amount ∧ f.amount ≤ 1048576) := Lib.hid fun f hf => by
    obtain ⟨q, h1, h2, h3, h4, h5, h6, h7⟩ := Bk.fill_of hok hf
    have := Bk.amt hok q h1
    omega
  have hamt := Lib.hid (Bk.amt hok)
  have HCr := Lib.hid (fun wx (hb : Below w.heap.size w wx) => rcross_calls wx A b.l c (h.below hb))
  have HFi : Hid (∀ wx, Below w.heap.size w wx → Calls Try.prog 18 #[.slice A b.l.length c, .int .i64 b.clear.2.1.1, .int .i64 b.clear.2.1.2] wx (FLeft wx b.clear.2.2)) := Lib.hid fun wx hb => rfills_calls wx A b.l c (Ca.cross b.l).1 (Ca.cross b.l).2 (h.below hb) (by omega)
  have HCr2 : Hid (∀ wx, Below w.heap.size w wx → Calls Try.prog 15 #[.slice A b.l.length c] wx (Told wx (.tuple #[.int .i64 b.clear.2.1.1, .int .i64 b.clear.2.1.2]))) := Lib.hid HCr.out
  have H := Lib.hid h
  have hnxe : Hid (b.clear.1.next = b.next) := Lib.hid rfl
  unfold FLeft at HFi
  unfold RClr rval
  generalize b.clear = C at *
  obtain ⟨C1, ⟨P, N⟩, F⟩ := C
  simp only at *
  obtain ⟨n, hn⟩ : ∃ n, Hid (b.l.length = n) := ⟨_, Lib.hid rfl⟩
  obtain ⟨kk, hk⟩ : ∃ k, Hid (F.length = k) := ⟨_, Lib.hid rfl⟩
  obtain ⟨nx, hnx⟩ : ∃ nx, Hid (b.next = nx) := ⟨_, Lib.hid rfl⟩
  obtain ⟨C1l, C1n⟩ := C1
  simp only at *
  rw [hn.out] at hl HFi HCr2
  rw [hk.out] at hff HFi
  rw [hn.out, hnx.out]
  rw [hnx.out] at hnxe
  have hb0 : Hid (Below w.heap.size w ((w.alloc (.cells #[.slice A n c, .int .i64 nx] 53)).alloc (.cells #[.slice none 0 0, .int .i64 0] 53))) := Lib.hid (((Below.refl _ _).alloc (Nat.le_refl _) _).alloc (by simp) _)
  have B0 := Lib.hid ((Blk.new w 53 #[.slice A n c, .int .i64 nx]).alloc (.cells #[.slice none 0 0, .int .i64 0] 53))
  have B1 : Hid (Blk ((w.alloc (.cells #[.slice A n c, .int .i64 nx] 53)).alloc (.cells #[.slice none 0 0, .int .i64 0] 53)) (w.heap.size + 1) 53 #[.slice none 0 0, .int .i64 0]) := Lib.hid (by
    have h := Blk.new (w.alloc (.cells #[.slice A n c, .int .i64 nx] 53)) 53 #[.slice none 0 0, .int .i64 0]
    rw [show (w.alloc (.cells #[.slice A n c, .int .i64 nx] 53)).heap.size = w.heap.size + 1 from by simp] at h
    exact h)
  obtain ⟨gb, hgb⟩ : ∃ g, Hid (w.heap.size = g) := ⟨_, Lib.hid rfl⟩
  obtain ⟨i1, hi1, hy0, hy1, hy2⟩ := info_parts info_order
  have HI1 := Lib.hid hi1
  have HY0 := Lib.hid hy0
  have HY1 := Lib.hid hy1
  have HY2 := Lib.hid hy2
  clear h hok hcr HCr hi1 hy0 hy1 hy2
  go_enter Try.func51, Try.ntmps51
  go_upto_region 1 with (fail)
  have hg : Hid (w.heap.size = gb) := hgb
  rw [hg.out] at B0 B1 ⊢
  generalize World.alloc (World.alloc w _) _ = wy at hb0 B0 B1 ⊢
  obtain ⟨x0, x1⟩ : wy.cell? ⟨gb, 0, none⟩ = some (.slice A n c) ∧ wy.cell? ⟨gb, 1, none⟩ = some (.int .i64 nx) := ⟨B0.out.cell 0, B0.out.cell 1⟩
  obtain ⟨z0, z1⟩ : wy.cell? ⟨gb + 1, 0, none⟩ = some (.slice none 0 0) ∧ wy.cell? ⟨gb + 1, 1, none⟩ = some (.int .i64 0) := ⟨B1.out.cell 0, B1.out.cell 1⟩
  obtain ⟨f0, f1⟩ : wy.frozen? ⟨gb + 1, 0, none⟩ = false ∧ wy.frozen? ⟨gb + 1, 1, none⟩ = false := ⟨B1.out.frozen 0, B1.out.frozen 1⟩
  have HX : Hid (∀ wx, Below wy.heap.size wy wx → (wx.cell? ⟨gb, 0, none⟩ = some (.slice A n c) ∧ wx.cell? ⟨gb, 1, none⟩ = some (.int .i64 nx)) ∧ (wx.cell? ⟨gb + 1, 0, none⟩ = some (.slice none 0 0) ∧ wx.cell? ⟨gb + 1, 1, none⟩ = some (.int .i64 0)) ∧ wx.frozen? ⟨gb + 1, 0, none⟩ = false ∧ wx.frozen? ⟨gb + 1, 1, none⟩ = false) := Lib.hid fun wx hb => by
    have b0 := B0.out.below hb B0.out.lt
    have b1 := B1.out.below hb B1.out.lt
    exact ⟨⟨b0.cell 0, b0.cell 1⟩, ⟨b1.cell 0, b1.cell 1⟩, b1.frozen 0, b1.frozen 1⟩
  have HGR : Hid (w.heap.size ≤ gb + 1 ∧ gb + 1 < wy.heap.size) := Lib.hid ⟨by rw [hg.out]; omega, B1.out.lt⟩
  go_upto_region 2 with (go_at_call 15; (with_reducible refine (HCr2.out _ hb0.out).mono ?_); rintro e w1 ⟨rfl, hh⟩; have hb1 := Lib.hid hh; clear hh)
  clear x0 x1 z0 z1 f0 f1
  obtain ⟨⟨x0, x1⟩, -, -, -⟩ := HX.out w1 hb1.out
  go_upto_region 3 with (go_at_call 18; (with_reducible refine (HFi.out _ (below_next hb0.out hb1.out)).mono ?_); rintro e w2 ⟨Af, cf, rfl, hmf, hh⟩; have HQ := Lib.hid (hmf.frow hk.out).2; have HMf := Lib.hid hmf; have hgs := Lib.hid (Nat.lt_of_lt_of_le HGR.out.2 hb1.out.size); have hb1s := Lib.hid (below_next hb0.out hb1.out).size; have hb2 := Lib.hid (below_next hb1.out hh); clear hh hmf)
  have hbw2 := Lib.hid (below_next hb0.out hb2.out)
  clear x0 x1 HFi HCr2 hb1
  go_upto_region 5 with (fail)
  go_loopg [9, 10] (n + 1) (fun gk s9 s10 wr => ∃ (i : Nat) (A2 : Option Addr) (n2 c2 : Nat), gk = n + 1 - i ∧ i ≤ n ∧ s10 = .int .i64 (i : Int) ∧ s9 = .slice A2 n2 c2 ∧ Hid ((raft F (b.l.take i)).length = n2 ∧ n2 ≤ i) ∧ Hid (Mine w2 wr 6 (.slice A2 n2 c2) n2 (ocells (raft F (b.l.take i)))) ∧ Hid (Below w2.heap.size w2 wr))
  case atStart => exact ⟨0, none, 0, 0, rfl, Nat.zero_le _, rfl, rfl, Lib.hid ⟨rfl, Nat.le_refl _⟩, Lib.hid (Mine.empty _ _ _ _), Lib.hid (Below.refl _ _)⟩
  case round =>
    obtain ⟨wo, hwo⟩ : ∃ wo, wo = wr := ⟨_, rfl⟩
    subst hwo
    obtain ⟨i, A2, n2, c2, rfl, hi, rfl, rfl, hn2, HM2, hb⟩ := hrel
    have i0 : (0 : Int) ≤ (i : Int) := by omega
    obtain ⟨⟨x0, x1⟩, ⟨z0, z1⟩, f0, f1⟩ := HX.out wo (below_next hb2.out hb.out)
    by_cases hil : i < n
    · have hiI : (i : Int) < (n : Int) := by omega
      have hiL : Hid (i < b.l.length) := Lib.hid (by rw [hn.out]; exact hil)
      have HMo := Lib.hid (show n + 1 - (i + 1) < n + 1 - i by omega)
      obtain ⟨pb, po, rfl⟩ : ∃ b o, A = some ⟨b, o, none⟩ := by
        obtain ⟨b, o, e, _⟩ := H.out.cells hiL.out
        exact ⟨b, o, e⟩
      obtain ⟨c0, c1, c2', c3, c4, c5⟩ := ORow.six H.out hiL.out (below_next hbw2.out hb.out)
      have hrn := Lib.hid (raft_next F b.l hiL.out)
      have hoa := Lib.hid (hamt.out _ (getD_mem hiL.out))
      generalize b.l.getD i ord0 = q at c0 c1 c2' c3 c4 c5 hrn hoa
      obtain ⟨qi, qo, qp, qa, qpl, qb⟩ := q
      unfold lessen at hrn
      simp only at c0 c1 c2' c3 c4 c5 hrn
      have hbq := Lib.hid (rgot_bound hfa.out qi)
      have hsq := Lib.hid (fun k hk => rgot_take F qi (k := k) hk)
      have hgz : Hid (qa - Bk.got (F.take 0) qi = qa) := Lib.hid (by simp [Bk.got])
      have hgall : Hid (Bk.got (F.take kk) qi = Bk.got F qi) := Lib.hid (by rw [List.take_of_length_le (by rw [hk.out]; exact Nat.le_refl _)])
      go_upto_region 8 with (fail)
      have BA := Lib.hid (Blk.new wo 33 #[.int .i64 qi, .int .i64 qo, .int .i64 qp, .int .i64 qa, .int .i64 qpl, .bool qb])
      obtain ⟨g2, hg2⟩ : ∃ g2, Hid (wo.heap.size = g2) := ⟨_, Lib.hid rfl⟩
      have HKeep : Hid (∀ wi, Only (fun k => k = g2) (wo.alloc (.cells #[.int .i64 qi, .int .i64 qo, .int .i64 qp, .int .i64 qa, .int .i64 qpl, .bool qb] 33)) wi → Mine w2 wi 6 (.slice A2 n2 c2) n2 (ocells (raft F (b.l.take i))) ∧ Below w2.heap.size w2 wi) := Lib.hid fun wi ho => ⟨HM2.out.past hg2.out ho, (hb.out.alloc hb.out.size _).trans (ho.below (hb.out.alloc hb.out.size _).size fun k e => by rw [e, ← hg2.out]; exact hb.out.size)⟩
      rw [hg2.out] at BA ⊢
      clear c0 c1 c2' c3 c4 c5 x0 x1 z0 z1 f0 f1
      generalize World.alloc wo _ = wz at BA HKeep ⊢
      go_upto_region 9 with (fail)
      go_loopg [12] (kk + 1) (fun gk s12 wr => ∃ k : Nat, gk = kk + 1 - k ∧ k ≤ kk ∧ s12 = .int .i64 (k : Int) ∧ Hid (Blk wr g2 33 #[.int .i64 qi, .int .i64 qo, .int .i64 qp, .int .i64 (qa - Bk.got (F.take k) qi), .int .i64 qpl, .bool qb]) ∧ Hid (Only (fun x => x = g2) wz wr))
      case atStart => exact ⟨0, rfl, Nat.zero_le _, rfl, by rw [hgz.out]; exact BA, Lib.hid (Only.refl _ _)⟩
      case round =>
        clear BA
        obtain ⟨k, rfl, hkk, rfl, BK, HOn⟩ := hrel
        have k0 : (0 : Int) ≤ (k : Int) := by omega
        have hbk := Lib.hid (HKeep.out _ HOn.out)
        by_cases hkl : k < kk
        · have hkI : (k : Int) < (kk : Int) := by omega
          have hkL : Hid (k < F.length) := Lib.hid (by rw [hk.out]; exact hkl)
          have HMk := Lib.hid (show kk + 1 - (k + 1) < kk + 1 - k by omega)
          obtain ⟨fb, fo, rfl⟩ : ∃ b o, Af = some ⟨b, o, none⟩ := by
            obtain ⟨b, o, e, _⟩ := HQ.out.cells hkL.out
            exact ⟨b, o, e⟩
          have HD := Lib.hid (fun wx hh => FRow.three HQ.out hkL.out (w' := wx) hh)
          have hN := Lib.hid (hsq.out k hkL.out)
          have hq0 := hbq.out k
          have hq1 := hoa.out
          (try simp only at hq1)
          have hfm := hfa.out (F.getD k fil0) (by rw [List.getD_eq_getElem?_getD, List.getElem?_eq_getElem hkL.out]; exact List.getElem_mem hkL.out)
          generalize F.getD k fil0 = f at HD hN hfm
          obtain ⟨fi, fw, fa⟩ := f
          simp only at HD hfm
          obtain ⟨d0, d1, d2⟩ := HD.out wr hbk.out.2
          generalize Bk.got (F.take k) qi = G at hN hq0 BK
          obtain ⟨c0, c3⟩ : wr.cell? ⟨g2, 0, none⟩ = some (.int .i64 qi) ∧ wr.cell? ⟨g2, 3, none⟩ = some (.int .i64 (qa - G)) := ⟨BK.out.cell 0, BK.out.cell 3⟩
          have f3 : wr.frozen? ⟨g2, 3, none⟩ = false := BK.out.frozen 3
          by_cases hid : fi = qi
          · subst hid
            have hid1 : (fi == fi) = true := by simp
            have hN' := hN.out
            rw [if_pos rfl] at hN'
            have HN : Hid (Bk.got (F.take (k + 1)) fi = G + fa) := Lib.hid hN'
            have qs : IntKind.i64.wrap (qa - G - fa) = qa - G - fa := by rw [IntKind.wrap_i64]; omega
            have hset : Hid (∀ wx, Blk wx g2 33 #[.int .i64 fi, .int .i64 qo, .int .i64 qp, .int .i64 (qa - G), .int .i64 qpl, .bool qb] → Blk (wx.setCell ⟨g2, 3, none⟩ (.int .i64 (qa - G - fa))) g2 33 #[.int .i64 fi, .int .i64 qo, .int .i64 qp, .int .i64 (qa - (G + fa)), .int .i64 qpl, .bool qb]) := Lib.hid fun wx hB => by
              have := hB.set_ 3 (.int .i64 (qa - G - fa))
              rw [show qa - (G + fa) = qa - G - fa from by omega]
              simpa using this
            clear hN hN' hq0 hq1 hfm
            go_wp2_with (fail)
            go_quiet (fail)
            generalize hwq : World.drewN wr _ = wq
            have hbq' : Hid (Below wr.heap.size wr wq ∧ Blk wq g2 33 #[.int .i64 fi, .int .i64 qo, .int .i64 qp, .int .i64 (qa - G), .int .i64 qpl, .bool qb]) := Lib.hid (by rw [← hwq]; exact ⟨below_self _ _, BK.out.drewN _⟩)
            clear hwq c0 c3 f3 d0 d1 d2
            obtain ⟨c0, c3⟩ : wq.cell? ⟨g2, 0, none⟩ = some (.int .i64 fi) ∧ wq.cell? ⟨g2, 3, none⟩ = some (.int .i64 (qa - G)) := ⟨hbq'.out.2.cell 0, hbq'.out.2.cell 3⟩
            have f3 : wq.frozen? ⟨g2, 3, none⟩ = false := hbq'.out.2.frozen 3
            obtain ⟨d0, d1, d2⟩ := HD.out wq (below_next hbk.out.2 hbq'.out.1)
            go_upto_region 12 with (fail)
            go_region
            go_wp2
            go_roundg (kk + 1 - (k + 1))
            case measure => exact HMk.out
            case rel => exact ⟨k + 1, rfl, by omega, by first | rfl | go_num, by rw [HN.out]; exact Lib.hid (hset.out _ hbq'.out.2).drew, Lib.hid (((HOn.out.then_below hbq'.out.1).setCell (.inl rfl) _).drewN 1)⟩
          · have hid1 : (fi == qi) = false := by simpa using hid
            have hN' := hN.out
            rw [if_neg hid, Int.add_zero] at hN'
            have HN : Hid (Bk.got (F.take (k + 1)) qi = G) := Lib.hid hN'
            clear hN hN' hq0 hq1 hfm hid
            go_wp2_with (fail)
            go_quiet (fail)
            go_wp2
            go_roundg (kk + 1 - (k + 1))
            case measure => exact HMk.out
            case rel => exact ⟨k + 1, rfl, by omega, by first | rfl | go_num, by rw [HN.out]; exact Lib.hid (BK.out.drewN _), Lib.hid (HOn.out.drewN _)⟩
        · obtain rfl : kk = k := by omega
          rw [hgall.out] at BK
          have hrn' := hrn.out
          generalize Bk.got F qi = G at BK hrn'
          obtain ⟨c0, c1, c2', c3, c4, c5⟩ : wr.cell? ⟨g2, 0, none⟩ = some (.int .i64 qi) ∧ wr.cell? ⟨g2, 1, none⟩ = some (.int .i64 qo) ∧ wr.cell? ⟨g2, 2, none⟩ = some (.int .i64 qp) ∧ wr.cell? ⟨g2, 3, none⟩ = some (.int .i64 (qa - G)) ∧ wr.cell? ⟨g2, 4, none⟩ = some (.int .i64 qpl) ∧ wr.cell? ⟨g2, 5, none⟩ = some (.bool qb) := ⟨BK.out.cell 0, BK.out.cell 1, BK.out.cell 2, BK.out.cell 3, BK.out.cell 4, BK.out.cell 5⟩
          obtain ⟨qz, hqz⟩ : ∃ qz, qa - G = qz := ⟨_, rfl⟩
          rw [hqz] at c3 hrn'
          have HBKm := Lib.hid hbk.out.1
          have HBKb := Lib.hid hbk.out.2
          clear hqz BK
          by_cases hp : 0 < qz
          · rw [if_pos hp] at hrn'
            have HRN := Lib.hid hrn'
            have hA1 : Hid (n2 + 1 ≤ maxLen) := Lib.hid (by have := hn2.out; unfold maxLen; omega)
            have hA2 : Hid ((n2 + 1) * 48 ≤ 140737488355328) := Lib.hid (by have := hn2.out; omega)
            have hS1 : Hid (∀ wz : World, Src Try.prog 6 22 (.slice (some ⟨wz.heap.size, 0, none⟩) 1 1) 1 (ocell ⟨qi, qo, qp, qz, qpl, qb⟩) (wz.alloc (.cells (ocell ⟨qi, qo, qp, qz, qpl, qb⟩).toArray 33))) := Lib.hid fun wz => src_new Try.underlying22 wz _ _ 1 1 rfl (by simp [ocell, Value.oneCell'])
            clear hrn'
            go_wp2_with (first
              | (at_builtin; (refine wpList_append_mine rfl (.tmp 62) (.tmp 64) 22 22 rfl 33 i1 (.agg #[.int .i64 0, .int .i64 0, .int .i64 0, .int .i64 0, .int .i64 0, .bool false]) 48 Try.underlying22 HI1.out HY0.out HY1.out HY2.out rfl (by decide) rfl (HBKm.out.alloc _) (HBKb.out.alloc HBKb.out.size _) _ 1 (ocell ⟨qi, qo, qp, qz, qpl, qb⟩) rfl (hS1.out _) hA1.out hA2.out ?_); intro A3 c3' w3 hm3 hb3; have HM3 := Lib.hid hm3; have HB3 := Lib.hid hb3; clear hm3 hb3))
            go_roundg (n + 1 - (i + 1))
            case measure => exact HMo.out
            case rel => exact ⟨i + 1, A3, n2 + 1, c3', rfl, by omega, by first | rfl | go_num, rfl, Lib.hid (by rw [HRN.out, List.length_append]; have := hn2.out; simp only [List.length_cons, List.length_nil]; omega), Lib.hid (by rw [HRN.out, ocells_append]; exact HM3.out), HB3⟩
          · rw [if_neg hp, List.append_nil] at hrn'
            have HRN := Lib.hid hrn'
            clear hrn'
            go_wp2
            go_roundg (n + 1 - (i + 1))
            case measure => exact HMo.out
            case rel => exact ⟨i + 1, A2, n2, c2, rfl, by omega, by first | rfl | go_num, rfl, Lib.hid (by rw [HRN.out]; have := hn2.out; omega), Lib.hid (by rw [HRN.out]; exact HBKm.out), HBKb⟩
    · obtain rfl : n = i := by omega
      have hre : Hid (raft F (b.l.take n) = C1l) := Lib.hid (by rw [List.take_of_length_le (by rw [hn.out]; exact Nat.le_refl _)]; exact hra.out)
      rw [hre.out] at hn2 HM2
      have hfin : Hid (∀ v0 v1, RClrTo w C1l C1n P N F (.returned (.tuple #[.agg #[.slice A2 n2 c2, .int .i64 nx], .int .i64 P, .int .i64 N, .slice Af kk cf])) ((wo.setCell ⟨gb + 1, 0, none⟩ v0).setCell ⟨gb + 1, 1, none⟩ v1)) := Lib.hid fun v0 v1 => by
        have hgs2 : gb + 1 < w2.heap.size := Nat.lt_of_lt_of_le HGR.out.2 hb2.out.size
        have h1 := ((HM2.out.far hgs2 0 v0).far hgs2 1 v1).base (w0 := w) hbw2.out.size
        have h2 := (((HMf.out.below hb.out).far hgs.out 0 v0).far hgs.out 1 v1).base (w0 := w) hb1s.out
        have e1 := hn2.out.1
        have e2 := hk.out
        subst e1
        subst e2
        exact ⟨A2, c2, Af, cf, by rw [hnxe.out], h1, h2, ((below_next hbw2.out hb.out).setCell (p := ⟨gb + 1, 0, none⟩) HGR.out.1 v0).setCell (p := ⟨gb + 1, 1, none⟩) HGR.out.1 v1⟩
      clear HM2 HMf hn2
      go_wp2
      (try simp only [Exit.inBlock, Exit.then])
      refine bodyPost_ret (by simp [results, Try.results51, asAddr, go_sem, z0, z1]; rfl) rfl ?_
      exact hfin.out _ _
end Go.Proofs.Ytilbhnloelgpdaa
