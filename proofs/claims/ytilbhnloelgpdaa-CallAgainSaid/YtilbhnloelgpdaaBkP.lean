/- Put. -/
import Derived.Test.YtilbhnloelgpdaaBkD
import Derived.BigRegion
namespace Go.Proofs.Ytilbhnloelgpdaa
open Go.RowKit
set_option linter.unusedVariables false
set_option linter.unusedSimpArgs false
theorem step_append_own {P : Program} {ops : Array Oper} {o : Oper} {a : Act} {K : Act → World → Prop} {Q : Exit → Act → World → Prop} {E : Prop} {w : World} {sz n : Nat} {v : Value} {b : Option Nat} {xs : List Value} (hgd : o.guard = none) (s x : Operand) (t tx : TypeId)
    (ho : o.op = .call { callee := .builtin .append, args := #[s, x], argTypes := #[t, tx] })
    (e : TypeId) (i : TypeInfo) (z : Value) (bytes : Nat) (ht : P.underlying t = some (.slice e)) (hi : P.info? e = some i) (hz : i.zero = some z) (hsize : i.size = sz) (hby : i.bytes = bytes) (hzs : z.cells.size = sz) (hsz : 0 < sz)
    (hv : a.eval s = v) (h : Own w sz v b n xs) (xv : Value) (m : Nat) (news : List Value) (hx : a.eval x = xv) (hs : Src P sz tx xv m news w) (h63 : n + m ≤ maxLen) (hbytes : (n + m) * bytes ≤ 140737488355328)
    (hK : ∀ A c w' b', Own w' sz (.slice A (n + m) c) b' (n + m) (xs ++ news) → w.grownBy w' b → (b' = b ∨ b' = some w.heap.size) → K (a.put o.dst (.slice A (n + m) c)) w') :
    if Region.wanted o (yielded ops a.tmps) = true then Oper.wp P o a w K Q else E := by
  have hw : Region.wanted o (yielded ops a.tmps) = true := by simp [Region.wanted, hgd]
  rw [if_pos hw]
  obtain ⟨v', w', b', hrun, h3, h4, h5⟩ := run_append_own2 (P := P) h t tx o.type e i z bytes ht hi hz hsize hby hzs hsz xv m news hs h63 hbytes
  obtain ⟨hl, A, c, rfl, hrest⟩ := h3
  unfold Oper.wp execOp
  simp only [ho, resolve, invoke, builtin, Sem.run_bind, Sem.run_pure, Result.andThen_ok, List.map_toArray, List.map_cons, List.map_nil, hv, hx, hrun]
  exact hK _ _ _ _ ⟨hl, A, c, rfl, hrest⟩ h4 h5
/-- What a call does to a book: it is b' behind it; of what was there its two blocks alone have turned. -/
def Turns (w w' : World) (g : Nat) (gl : Option Nat) (b' : Bk) : Prop :=
  ∃ gl', AtB w' g gl' b' ∧ Only (fun k => k = g ∨ some k = gl) w w' ∧ (gl' = gl ∨ ∃ k, gl' = some k ∧ w.heap.size ≤ k)
theorem Turns.same {w w' : World} {g : Nat} {gl : Option Nat} {b : Bk} (h : AtB w g gl b) (hb : Below w.heap.size w w') : Turns w w' g gl b := ⟨gl, h.below hb, Only.of_below hb, .inl rfl⟩
theorem blk_two {w : World} {g : Nat} {t : TypeId} {a0 a1 : Value} (h : Blk w g t #[a0, a1]) (v : Value) : Blk (w.setCell ⟨g, 0, none⟩ v) g t #[v, a1] ∧ Blk (w.setCell ⟨g, 1, none⟩ v) g t #[a0, v] := by
  have h1 := h.set_ 0 v
  have h2 := h.set_ 1 v
  simp only [List.setIfInBounds_toArray, List.set_cons_zero, List.set_cons_succ] at h1 h2
  exact ⟨h1, h2⟩
theorem blk_place {w : World} {g : Nat} {t : TypeId} {a0 a1 a2 a3 a4 a5 : Value} (h : Blk w g t #[a0, a1, a2, a3, a4, a5]) (v : Value) : Blk (w.setCell ⟨g, 4, none⟩ v) g t #[a0, a1, a2, a3, v, a5] := by
  have h1 := h.set_ 4 v
  simp only [List.setIfInBounds_toArray, List.set_cons_zero, List.set_cons_succ] at h1
  exact h1
theorem Own.far {w : World} {sz n : Nat} {v : Value} {b : Option Nat} {xs : List Value} (h : Own w sz v b n xs) {g : Nat} (hg : b ≠ some g) (j : Nat) (u : Value) : Own (w.setCell ⟨g, j, none⟩ u) sz v b n xs :=
  h.carry (by simp) fun k hk => heap_setCell_other w ⟨g, j, none⟩ k u (by rintro rfl; exact hg hk)
/-- What an append to a book's list, and the store of it, make of the book. -/
theorem turns_append {w w3 wa w4 : World} {g n c c4 : Nat} {gl b4 : Option Nat} {A A4 : Option Addr} {L : List Ord} {nx : Int} {o2 : Ord} (hL : L.length = n) (hBG : Blk w3 g 76 #[.slice A n c, .int .i64 nx]) (hOn : Only (fun x => x = g ∨ some x = gl) w w3) (hwa : Below w3.heap.size w3 wa)
    (hown : Own w4 6 (.slice A4 (n + 1) c4) b4 (n + 1) (ocells L ++ ocell o2)) (hg : wa.grownBy w4 gl) (hbb : b4 = gl ∨ b4 = some wa.heap.size) (hgl : gl ≠ some g) (hlt : g < w.heap.size) (hok : (⟨L ++ [o2], nx⟩ : Bk).Ok) :
    Blk w4 g 76 #[.slice A n c, .int .i64 nx] ∧ Turns w (w4.setCell ⟨g, 0, none⟩ (.slice A4 (n + 1) c4)) g gl ⟨L ++ [o2], nx⟩ := by
  have hga : Blk wa g 76 #[.slice A n c, .int .i64 nx] := hBG.below hwa hBG.lt
  have hg4 : Blk w4 g 76 #[.slice A n c, .int .i64 nx] := by
    have e := hg.block g hga.lt fun e => hgl e.symm
    unfold Blk at hga ⊢
    rw [e]; exact hga
  have hb4 : b4 ≠ some g := by
    rcases hbb with e | e
    · rw [e]; exact hgl
    · rw [e]; intro e2
      have := hga.lt
      cases e2
      omega
  refine ⟨hg4, b4, ⟨⟨A4, c4, ?_, ?_⟩, hb4, hok⟩, ?_, ?_⟩
  · have := (blk_two hg4 (.slice A4 (n + 1) c4)).1
    show Blk _ g _ #[.slice A4 (L ++ [o2]).length c4, .int .i64 nx]
    rw [List.length_append, hL]; exact this
  · show Own _ 6 (.slice A4 (L ++ [o2]).length c4) b4 (L ++ [o2]).length (ocells (L ++ [o2]))
    rw [List.length_append, hL, ocells_append]
    exact hown.far hb4 _ _
  · exact ((hOn.then_below hwa).trans (Only.of_grown hg) fun x hx => .inl (.inr hx)).setCell (.inl (.inl rfl)) _
  · rcases hbb with e | e
    · exact .inl e
    · exact .inr ⟨_, e, Nat.le_trans hOn.size hwa.size⟩
set_option maxHeartbeats 8000000 in
set_option maxRecDepth 100000 in
theorem put_calls (w : World) (g : Nat) (gl : Option Nat) (b : Bk) (h : AtB w g gl b) (q : Ord) : Calls Try.prog 32 #[.pointer (some ⟨g, 0, none⟩), oval q] w fun e w' => e = .returned (.int .i64 (b.put q).2) ∧ Turns w w' g gl (b.put q).1 := by
  have H := Lib.hid h
  have HAt := Lib.hid (fun wx (hb : Below w.heap.size w wx) => at_calls wx g gl b (h.below hb) q.id)
  have HR := Lib.hid (fun wx => right_calls wx q)
  obtain ⟨E, hE⟩ : ∃ E, Hid (b.put q = E) := ⟨_, Lib.hid rfl⟩
  have hok := Lib.hid (Bk.put_ok h.ok q)
  have hE2 := hE.out
  unfold Bk.put at hE2
  rw [hE.out] at hok ⊢
  obtain ⟨qi, qo, qp, qa, qpl, qb⟩ := q
  unfold oval at HR ⊢
  simp only at HR HAt hE2 ⊢
  generalize Ord.right ⟨qi, qo, qp, qa, qpl, qb⟩ = r at HR hE2
  have hb0 : Hid (Below w.heap.size w (w.alloc (.cells #[.int .i64 qi, .int .i64 qo, .int .i64 qp, .int .i64 qa, .int .i64 qpl, .bool qb] 33))) := Lib.hid ((Below.refl _ _).alloc (Nat.le_refl _) _)
  have B0 := Lib.hid (Blk.new w 33 #[.int .i64 qi, .int .i64 qo, .int .i64 qp, .int .i64 qa, .int .i64 qpl, .bool qb])
  clear h
  cases r with
  | false =>
    have hE3 := Lib.hid hE2.symm
    rw [if_pos (by simp)] at hE3
    rw [hE3.out]
    clear hE2
    go_enter Try.func32, Try.ntmps32
    go_upto_region 1 with (fail)
    obtain ⟨k, hk⟩ : ∃ k, w.heap.size = k := ⟨_, rfl⟩
    have HKk := Lib.hid hk
    rw [hk] at B0 ⊢
    clear hk
    generalize World.alloc w _ = wy at hb0 B0 ⊢
    obtain ⟨c0, c1, c2, c3, c4, c5⟩ : (wy.cell? ⟨k, 0, none⟩ = some (.int .i64 qi) ∧ wy.cell? ⟨k, 1, none⟩ = some (.int .i64 qo) ∧ wy.cell? ⟨k, 2, none⟩ = some (.int .i64 qp) ∧ wy.cell? ⟨k, 3, none⟩ = some (.int .i64 qa) ∧ wy.cell? ⟨k, 4, none⟩ = some (.int .i64 qpl) ∧ wy.cell? ⟨k, 5, none⟩ = some (.bool qb)) := ⟨B0.out.cell 0, B0.out.cell 1, B0.out.cell 2, B0.out.cell 3, B0.out.cell 4, B0.out.cell 5⟩
    go_wp2_with (go_at_call 47; (with_reducible refine (HR.out _).mono ?_); rintro e w1 ⟨rfl, hh⟩; have hb1 := Lib.hid hh; clear hh)
    refine bodyPost_ret (by simp [results, Try.results32, asAddr, go_sem]; rfl) rfl ?_
    exact ⟨rfl, Turns.same H.out (below_next hb0.out hb1.out)⟩
  | true =>
    by_cases hpl : qpl = 0
    · have hplB : (qpl != 0) = false := by simpa using hpl
      rw [if_neg (by simp [hpl])] at hE2
      clear hpl
      by_cases hix : Bk.ix b.l qi < b.l.length
      · have hE3 := Lib.hid hE2.symm
        rw [if_pos hix] at hE3
        rw [hE3.out]
        rw [at_in hix] at HAt
        have hge : (0 : Int) ≤ (Bk.ix b.l qi : Int) := by omega
        clear hE2 hix
        go_enter Try.func32, Try.ntmps32
        go_upto_region 1 with (fail)
        obtain ⟨k, hk⟩ : ∃ k, w.heap.size = k := ⟨_, rfl⟩
        have HKk := Lib.hid hk
        rw [hk] at B0 ⊢
        clear hk
        generalize World.alloc w _ = wy at hb0 B0 ⊢
        obtain ⟨c0, c1, c2, c3, c4, c5⟩ : (wy.cell? ⟨k, 0, none⟩ = some (.int .i64 qi) ∧ wy.cell? ⟨k, 1, none⟩ = some (.int .i64 qo) ∧ wy.cell? ⟨k, 2, none⟩ = some (.int .i64 qp) ∧ wy.cell? ⟨k, 3, none⟩ = some (.int .i64 qa) ∧ wy.cell? ⟨k, 4, none⟩ = some (.int .i64 qpl) ∧ wy.cell? ⟨k, 5, none⟩ = some (.bool qb)) := ⟨B0.out.cell 0, B0.out.cell 1, B0.out.cell 2, B0.out.cell 3, B0.out.cell 4, B0.out.cell 5⟩
        go_upto_region 3 with (go_at_call 47; (with_reducible refine (HR.out _).mono ?_); rintro e w1 ⟨rfl, hh⟩; have hb1 := Lib.hid hh; clear hh; obtain ⟨c0, c1, c2, c3, c4, c5⟩ : (w1.cell? ⟨k, 0, none⟩ = some (.int .i64 qi) ∧ w1.cell? ⟨k, 1, none⟩ = some (.int .i64 qo) ∧ w1.cell? ⟨k, 2, none⟩ = some (.int .i64 qp) ∧ w1.cell? ⟨k, 3, none⟩ = some (.int .i64 qa) ∧ w1.cell? ⟨k, 4, none⟩ = some (.int .i64 qpl) ∧ w1.cell? ⟨k, 5, none⟩ = some (.bool qb)) := ⟨(B0.out.below hb1.out B0.out.lt).cell 0, (B0.out.below hb1.out B0.out.lt).cell 1, (B0.out.below hb1.out B0.out.lt).cell 2, (B0.out.below hb1.out B0.out.lt).cell 3, (B0.out.below hb1.out B0.out.lt).cell 4, (B0.out.below hb1.out B0.out.lt).cell 5⟩)
        have hbw1 := Lib.hid (below_next hb0.out hb1.out)
        go_wp2_with (go_at_call 43; (with_reducible refine (HAt.out _ hbw1.out).mono ?_); rintro e w2 ⟨rfl, hh⟩; have hbw2 := Lib.hid (below_next hbw1.out hh); clear hh)
        refine bodyPost_ret (by simp [results, Try.results32, asAddr, go_sem]; rfl) rfl ?_
        exact ⟨rfl, Turns.same H.out hbw2.out⟩
      · rw [if_neg hix] at hE2
        rw [at_out hix] at HAt
        obtain ⟨A, c, hB, hO⟩ := H.out.box
        have HB := Lib.hid hB
        have HO := Lib.hid hO
        have hfew := H.out.ok.few
        have hn0 := H.out.ok.next0
        have hn1 := H.out.ok.next1
        obtain ⟨n, hn⟩ : ∃ n, Hid (b.l.length = n) := ⟨_, Lib.hid rfl⟩
        obtain ⟨nx, hnx⟩ : ∃ nx, Hid (b.next = nx) := ⟨_, Lib.hid rfl⟩
        rw [hn.out] at HB HO hfew hE2
        rw [hnx.out] at HB hE2 hn0 hn1
        clear hB hO hix
        by_cases hfull : n = 64 ∨ 9007199254740992 ≤ nx
        · have hE3 := Lib.hid hE2.symm
          rw [if_pos hfull] at hE3
          rw [hE3.out]
          clear hE2
          by_cases hn64 : n = 64
          · have h64B : ((n : Int) == 64) = true := by rw [hn64]; rfl
            go_enter Try.func32, Try.ntmps32
            go_upto_region 1 with (fail)
            obtain ⟨k, hk⟩ : ∃ k, w.heap.size = k := ⟨_, rfl⟩
            have HKk := Lib.hid hk
            rw [hk] at B0 ⊢
            clear hk
            generalize World.alloc w _ = wy at hb0 B0 ⊢
            obtain ⟨c0, c1, c2, c3, c4, c5⟩ : (wy.cell? ⟨k, 0, none⟩ = some (.int .i64 qi) ∧ wy.cell? ⟨k, 1, none⟩ = some (.int .i64 qo) ∧ wy.cell? ⟨k, 2, none⟩ = some (.int .i64 qp) ∧ wy.cell? ⟨k, 3, none⟩ = some (.int .i64 qa) ∧ wy.cell? ⟨k, 4, none⟩ = some (.int .i64 qpl) ∧ wy.cell? ⟨k, 5, none⟩ = some (.bool qb)) := ⟨B0.out.cell 0, B0.out.cell 1, B0.out.cell 2, B0.out.cell 3, B0.out.cell 4, B0.out.cell 5⟩
            go_upto_region 3 with (go_at_call 47; (with_reducible refine (HR.out _).mono ?_); rintro e w1 ⟨rfl, hh⟩; have hb1 := Lib.hid hh; clear hh; obtain ⟨c0, c1, c2, c3, c4, c5⟩ : (w1.cell? ⟨k, 0, none⟩ = some (.int .i64 qi) ∧ w1.cell? ⟨k, 1, none⟩ = some (.int .i64 qo) ∧ w1.cell? ⟨k, 2, none⟩ = some (.int .i64 qp) ∧ w1.cell? ⟨k, 3, none⟩ = some (.int .i64 qa) ∧ w1.cell? ⟨k, 4, none⟩ = some (.int .i64 qpl) ∧ w1.cell? ⟨k, 5, none⟩ = some (.bool qb)) := ⟨(B0.out.below hb1.out B0.out.lt).cell 0, (B0.out.below hb1.out B0.out.lt).cell 1, (B0.out.below hb1.out B0.out.lt).cell 2, (B0.out.below hb1.out B0.out.lt).cell 3, (B0.out.below hb1.out B0.out.lt).cell 4, (B0.out.below hb1.out B0.out.lt).cell 5⟩)
            have hbw1 := Lib.hid (below_next hb0.out hb1.out)
            go_upto_region 5 with (go_at_call 43; (with_reducible refine (HAt.out _ hbw1.out).mono ?_); rintro e w2 ⟨rfl, hh⟩; have hbw2 := Lib.hid (below_next hbw1.out hh); clear hh)
            have BG := Lib.hid (HB.out.below hbw2.out HB.out.lt)
            have x0 := BG.out.cell 0
            have x1 := BG.out.cell 1
            simp at x0 x1
            go_wp2
            refine bodyPost_ret (by simp [results, Try.results32, asAddr, go_sem]; rfl) rfl ?_
            exact ⟨rfl, Turns.same H.out hbw2.out⟩
          · have h64B : ((n : Int) == 64) = false := by rw [beq_eq_false_iff_ne]; omega
            have hnxI : 9007199254740992 ≤ nx := by omega
            clear hfull
            go_enter Try.func32, Try.ntmps32
            go_upto_region 1 with (fail)
            obtain ⟨k, hk⟩ : ∃ k, w.heap.size = k := ⟨_, rfl⟩
            have HKk := Lib.hid hk
            rw [hk] at B0 ⊢
            clear hk
            generalize World.alloc w _ = wy at hb0 B0 ⊢
            obtain ⟨c0, c1, c2, c3, c4, c5⟩ : (wy.cell? ⟨k, 0, none⟩ = some (.int .i64 qi) ∧ wy.cell? ⟨k, 1, none⟩ = some (.int .i64 qo) ∧ wy.cell? ⟨k, 2, none⟩ = some (.int .i64 qp) ∧ wy.cell? ⟨k, 3, none⟩ = some (.int .i64 qa) ∧ wy.cell? ⟨k, 4, none⟩ = some (.int .i64 qpl) ∧ wy.cell? ⟨k, 5, none⟩ = some (.bool qb)) := ⟨B0.out.cell 0, B0.out.cell 1, B0.out.cell 2, B0.out.cell 3, B0.out.cell 4, B0.out.cell 5⟩
            go_upto_region 3 with (go_at_call 47; (with_reducible refine (HR.out _).mono ?_); rintro e w1 ⟨rfl, hh⟩; have hb1 := Lib.hid hh; clear hh; obtain ⟨c0, c1, c2, c3, c4, c5⟩ : (w1.cell? ⟨k, 0, none⟩ = some (.int .i64 qi) ∧ w1.cell? ⟨k, 1, none⟩ = some (.int .i64 qo) ∧ w1.cell? ⟨k, 2, none⟩ = some (.int .i64 qp) ∧ w1.cell? ⟨k, 3, none⟩ = some (.int .i64 qa) ∧ w1.cell? ⟨k, 4, none⟩ = some (.int .i64 qpl) ∧ w1.cell? ⟨k, 5, none⟩ = some (.bool qb)) := ⟨(B0.out.below hb1.out B0.out.lt).cell 0, (B0.out.below hb1.out B0.out.lt).cell 1, (B0.out.below hb1.out B0.out.lt).cell 2, (B0.out.below hb1.out B0.out.lt).cell 3, (B0.out.below hb1.out B0.out.lt).cell 4, (B0.out.below hb1.out B0.out.lt).cell 5⟩)
            have hbw1 := Lib.hid (below_next hb0.out hb1.out)
            go_upto_region 5 with (go_at_call 43; (with_reducible refine (HAt.out _ hbw1.out).mono ?_); rintro e w2 ⟨rfl, hh⟩; have hbw2 := Lib.hid (below_next hbw1.out hh); clear hh)
            have BG := Lib.hid (HB.out.below hbw2.out HB.out.lt)
            have x0 := BG.out.cell 0
            have x1 := BG.out.cell 1
            simp at x0 x1
            go_wp2
            refine bodyPost_ret (by simp [results, Try.results32, asAddr, go_sem]; rfl) rfl ?_
            exact ⟨rfl, Turns.same H.out hbw2.out⟩
        · have hE3 := Lib.hid hE2.symm
          rw [if_neg hfull] at hE3
          have h64B : ((n : Int) == 64) = false := by rw [beq_eq_false_iff_ne]; omega
          have hnxI : ¬ 9007199254740992 ≤ nx := by omega
          have qn : IntKind.i64.wrap (nx + 1) = nx + 1 := by rw [IntKind.wrap_i64]; omega
          rw [hE3.out] at hok
          rw [hE3.out]
          obtain ⟨i1, hi1, hy0, hy1, hy2⟩ := info_parts info_order
          have HI1 := Lib.hid hi1
          have HY0 := Lib.hid hy0
          have HY1 := Lib.hid hy1
          have HY2 := Lib.hid hy2
          have hA1 : Hid (n + 1 ≤ maxLen) := Lib.hid (by unfold maxLen; omega)
          have hA2 : Hid ((n + 1) * 48 ≤ 140737488355328) := Lib.hid (by omega)
          clear hE2 hfull hi1 hy0 hy1 hy2
          go_enter Try.func32, Try.ntmps32
          go_upto_region 1 with (fail)
          obtain ⟨k, hk⟩ : ∃ k, w.heap.size = k := ⟨_, rfl⟩
          have HKk := Lib.hid hk
          rw [hk] at B0 ⊢
          clear hk
          generalize World.alloc w _ = wy at hb0 B0 ⊢
          obtain ⟨c0, c1, c2, c3, c4, c5⟩ : (wy.cell? ⟨k, 0, none⟩ = some (.int .i64 qi) ∧ wy.cell? ⟨k, 1, none⟩ = some (.int .i64 qo) ∧ wy.cell? ⟨k, 2, none⟩ = some (.int .i64 qp) ∧ wy.cell? ⟨k, 3, none⟩ = some (.int .i64 qa) ∧ wy.cell? ⟨k, 4, none⟩ = some (.int .i64 qpl) ∧ wy.cell? ⟨k, 5, none⟩ = some (.bool qb)) := ⟨B0.out.cell 0, B0.out.cell 1, B0.out.cell 2, B0.out.cell 3, B0.out.cell 4, B0.out.cell 5⟩
          go_upto_region 3 with (go_at_call 47; (with_reducible refine (HR.out _).mono ?_); rintro e w1 ⟨rfl, hh⟩; have hb1 := Lib.hid hh; clear hh; obtain ⟨c0, c1, c2, c3, c4, c5⟩ : (w1.cell? ⟨k, 0, none⟩ = some (.int .i64 qi) ∧ w1.cell? ⟨k, 1, none⟩ = some (.int .i64 qo) ∧ w1.cell? ⟨k, 2, none⟩ = some (.int .i64 qp) ∧ w1.cell? ⟨k, 3, none⟩ = some (.int .i64 qa) ∧ w1.cell? ⟨k, 4, none⟩ = some (.int .i64 qpl) ∧ w1.cell? ⟨k, 5, none⟩ = some (.bool qb)) := ⟨(B0.out.below hb1.out B0.out.lt).cell 0, (B0.out.below hb1.out B0.out.lt).cell 1, (B0.out.below hb1.out B0.out.lt).cell 2, (B0.out.below hb1.out B0.out.lt).cell 3, (B0.out.below hb1.out B0.out.lt).cell 4, (B0.out.below hb1.out B0.out.lt).cell 5⟩)
          have hbw1 := Lib.hid (below_next hb0.out hb1.out)
          go_upto_region 5 with (go_at_call 43; (with_reducible refine (HAt.out _ hbw1.out).mono ?_); rintro e w2 ⟨rfl, hh⟩; have hb2 := Lib.hid hh; have hbw2 := Lib.hid (below_next hbw1.out hh); clear hh)
          clear c0 c1 c2 c3 c4 c5
          have hgk : Hid (g ≠ k ∧ gl ≠ some k ∧ gl ≠ some g ∧ g < w.heap.size ∧ w.heap.size ≤ k) := Lib.hid ⟨by have := H.out.lt; rw [HKk.out] at this; omega, fun e => by have := HO.out.lt e; rw [HKk.out] at this; omega, H.out.apart, H.out.lt, Nat.le_of_eq HKk.out⟩
          have BG := Lib.hid (HB.out.below hbw2.out HB.out.lt)
          have BK := Lib.hid ((B0.out.below hb1.out B0.out.lt).below hb2.out (Nat.lt_of_lt_of_le B0.out.lt hb1.out.size))
          have x0 := BG.out.cell 0
          have x1 := BG.out.cell 1
          simp at x0 x1
          have x2 := BG.out.frozen 1
          have y0 := BK.out.cell 4
          simp at y0
          have y1 := BK.out.frozen 4
          have hgk1 : g ≠ k := hgk.out.1
          have hgk2 : k ≠ g := fun e => hgk1 e.symm
          go_upto_region 9 with (fail)
          obtain ⟨w3, hw3⟩ : ∃ w3, (w2.setCell ⟨k, 4, none⟩ (.int .i64 nx)).setCell ⟨g, 1, none⟩ (.int .i64 (nx + 1)) = w3 := ⟨_, rfl⟩
          have HBK : Hid (Blk w3 k 33 #[.int .i64 qi, .int .i64 qo, .int .i64 qp, .int .i64 qa, .int .i64 nx, .bool qb]) := Lib.hid (by rw [← hw3]; exact (blk_place BK.out _).far hgk2 _)
          have HBG : Hid (Blk w3 g 76 #[.slice A n c, .int .i64 (nx + 1)]) := Lib.hid (by rw [← hw3]; exact (blk_two (BG.out.far hgk1 _) _).2)
          have HOw : Hid (Own w3 6 (.slice A n c) gl n (ocells b.l)) := Lib.hid (by rw [← hw3]; exact ((HO.out.below hbw2.out).far hgk.out.2.1 _ _).far hgk.out.2.2.1 _ _)
          have HOn : Hid (Only (fun x => x = g ∨ some x = gl) w w3) := Lib.hid (by rw [← hw3]; exact ((Only.of_below hbw2.out).setCell (.inr hgk.out.2.2.2.2) _).setCell (.inl (.inl rfl)) _)
          rw [hw3]
          clear hw3 x0 x1 x2 y0 y1 BG BK hb1 hb2 hbw1 hbw2 HB HO
          have hBX : Hid (∀ o, Below w3.heap.size w3 (w3.alloc o).drew) := Lib.hid fun o => ((Below.refl _ _).alloc (Nat.le_refl _) o).drew
          have xs0 : (w3.cell? ⟨g, 0, none⟩ = some (.slice A n c) ∧ w3.cell? ⟨k, 0, none⟩ = some (.int .i64 qi) ∧ w3.cell? ⟨k, 1, none⟩ = some (.int .i64 qo) ∧ w3.cell? ⟨k, 2, none⟩ = some (.int .i64 qp) ∧ w3.cell? ⟨k, 3, none⟩ = some (.int .i64 qa) ∧ w3.cell? ⟨k, 4, none⟩ = some (.int .i64 nx) ∧ w3.cell? ⟨k, 5, none⟩ = some (.bool qb)) := by
            have b1 := HBG.out
            have b2 := HBK.out
            exact ⟨b1.cell 0, b2.cell 0, b2.cell 1, b2.cell 2, b2.cell 3, b2.cell 4, b2.cell 5⟩
          have xs1 : (w3.alloc (.cells #[.int .i64 qi, .int .i64 qo, .int .i64 qp, .int .i64 qa, .int .i64 nx, .bool qb] 33)).cell? ⟨g, 0, none⟩ = some (.slice A n c) := (HBG.out.below ((Below.refl _ _).alloc (Nat.le_refl _) _) HBG.out.lt).cell 0
          obtain ⟨c0, c1, c2, c3, c4, c5, c6⟩ := xs0
          have HOa : Hid (∀ o, Own (w3.alloc o).drew 6 (.slice A n c) gl n (ocells b.l)) := Lib.hid fun o => HOw.out.below (hBX.out o)
          have hS1 : Hid (Src Try.prog 6 22 (.slice (some ⟨w3.heap.size, 0, none⟩) 1 1) 1 (ocell ⟨qi, qo, qp, qa, nx, qb⟩) (w3.alloc (.cells (ocell ⟨qi, qo, qp, qa, nx, qb⟩).toArray 33)).drew) := Lib.hid (src_new_drew Try.underlying22 w3 _ _ 1 1 rfl (by simp [ocell, Value.oneCell']))
          have HF := Lib.hid (fun (A4 : Option Addr) (c4 : Nat) (w4 : World) (b4 : Option Nat) (ob : Obj) (hown : Own w4 6 (.slice A4 (n + 1) c4) b4 (n + 1) (ocells b.l ++ ocell ⟨qi, qo, qp, qa, nx, qb⟩)) (hgr : (w3.alloc ob).drew.grownBy w4 gl) (hbb : b4 = gl ∨ b4 = some (w3.alloc ob).drew.heap.size) => turns_append (w := w) hn.out HBG.out HOn.out (hBX.out ob) hown hgr hbb hgk.out.2.2.1 hgk.out.2.2.2.1 hok.out)
          clear HBK HBG HOw
          go_region_law (refine step_append_own rfl (.tmp 54) (.tmp 56) 22 22 rfl 33 i1 (.agg #[.int .i64 0, .int .i64 0, .int .i64 0, .int .i64 0, .int .i64 0, .bool false]) 48 Try.underlying22 HI1.out HY0.out HY1.out HY2.out rfl (by decide) rfl (HOa.out _) _ 1 (ocell ⟨qi, qo, qp, qa, nx, qb⟩) rfl hS1.out hA1.out hA2.out ?_; intro A4 c4 w4 b4 hown hgr hbb; have hT := Lib.hid (HF.out A4 c4 w4 b4 _ hown hgr hbb); have z0 := hT.out.1.cell 0; simp at z0; have z1 := hT.out.1.frozen 0; clear hown hgr hbb)
          all_goals
            go_wp2
            refine bodyPost_ret (by simp [results, Try.results32, asAddr, go_sem]; rfl) rfl ?_
            exact ⟨rfl, hT.out.2⟩
    · have hplB : (qpl != 0) = true := by simpa using hpl
      have hE3 := Lib.hid hE2.symm
      rw [if_pos (by simp [hpl])] at hE3
      rw [hE3.out]
      clear hE2
      go_enter Try.func32, Try.ntmps32
      go_upto_region 1 with (fail)
      obtain ⟨k, hk⟩ : ∃ k, w.heap.size = k := ⟨_, rfl⟩
      have HKk := Lib.hid hk
      rw [hk] at B0 ⊢
      clear hk
      generalize World.alloc w _ = wy at hb0 B0 ⊢
      obtain ⟨c0, c1, c2, c3, c4, c5⟩ : (wy.cell? ⟨k, 0, none⟩ = some (.int .i64 qi) ∧ wy.cell? ⟨k, 1, none⟩ = some (.int .i64 qo) ∧ wy.cell? ⟨k, 2, none⟩ = some (.int .i64 qp) ∧ wy.cell? ⟨k, 3, none⟩ = some (.int .i64 qa) ∧ wy.cell? ⟨k, 4, none⟩ = some (.int .i64 qpl) ∧ wy.cell? ⟨k, 5, none⟩ = some (.bool qb)) := ⟨B0.out.cell 0, B0.out.cell 1, B0.out.cell 2, B0.out.cell 3, B0.out.cell 4, B0.out.cell 5⟩
      go_wp2_with (go_at_call 47; (with_reducible refine (HR.out _).mono ?_); rintro e w1 ⟨rfl, hh⟩; have hb1 := Lib.hid hh; clear hh; obtain ⟨c0, c1, c2, c3, c4, c5⟩ : (w1.cell? ⟨k, 0, none⟩ = some (.int .i64 qi) ∧ w1.cell? ⟨k, 1, none⟩ = some (.int .i64 qo) ∧ w1.cell? ⟨k, 2, none⟩ = some (.int .i64 qp) ∧ w1.cell? ⟨k, 3, none⟩ = some (.int .i64 qa) ∧ w1.cell? ⟨k, 4, none⟩ = some (.int .i64 qpl) ∧ w1.cell? ⟨k, 5, none⟩ = some (.bool qb)) := ⟨(B0.out.below hb1.out B0.out.lt).cell 0, (B0.out.below hb1.out B0.out.lt).cell 1, (B0.out.below hb1.out B0.out.lt).cell 2, (B0.out.below hb1.out B0.out.lt).cell 3, (B0.out.below hb1.out B0.out.lt).cell 4, (B0.out.below hb1.out B0.out.lt).cell 5⟩)
      refine bodyPost_ret (by simp [results, Try.results32, asAddr, go_sem]; rfl) rfl ?_
      exact ⟨rfl, Turns.same H.out (below_next hb0.out hb1.out)⟩
end Go.Proofs.Ytilbhnloelgpdaa
