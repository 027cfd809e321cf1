/- A list of orders that came in, with its bytes bounded. The reference's Same and SameFills at lists that are the same. Cancel. Amend. Amend and Cancel of a book as the laws use it. A script of calls that came in: each a number and an order. begun: a book behind some calls. -/
import Derived.Test.YtilbhnloelgpdaaGClr
import Derived.Test.YtilbhnloelgpdaaGMem
namespace Go.Proofs.Ytilbhnloelgpdaa
open Go.RowKit
set_option linter.unusedVariables false
set_option linter.unusedSimpArgs false
section
variable {H : Type} {enc : TypeId × Value → H} {P : Program} {W : World} {base : Nat} {spare : Nat → Bool} {held : Bool}
theorem open_ordersw {t e ti tx : TypeId} {f0 f1 f2 f3 f4 f5 : Field} (hs : P.underlying t = some (.slice e)) (ht : P.underlying e = some (.struct #[f0, f1, f2, f3, f4, f5])) (hc : P.cellsOf e = 6)
    (ho : f0.offset = 0 ∧ f1.offset = 1 ∧ f2.offset = 2 ∧ f3.offset = 3 ∧ f4.offset = 4 ∧ f5.offset = 5) (hf : f0.type = ti ∧ f1.type = ti ∧ f2.type = ti ∧ f3.type = ti ∧ f4.type = ti ∧ f5.type = tx) (hi : P.underlying ti = some (.int .i64)) (hci : P.cellsOf ti = 1) (hx : P.underlying tx = some .bool) (hcx : P.cellsOf tx = 1) (hby : P.bytesOf e = 48)
    {a : Option Addr} {len cap : Nat} {d : DataW H} {ps : List MemPlace} (h : DataW.Trod enc P W base spare held t (.slice a len cap) d ps) (hw : ∀ n ∈ d.weights P t, n ≤ reachBytes) : ∃ L : List Ord, L.length = len ∧ len * 48 ≤ 140737488351232 ∧ len ≤ cap ∧ cap ≤ maxLen ∧ ORow W a L := by
  obtain ⟨L, h1, h2, h3, h4⟩ := open_orders hs ht hc ho hf hi hci hx hcx h
  refine ⟨L, h1, ?_, h2, h3, h4⟩
  obtain ⟨fuel, hfu⟩ := h
  rcases Deep.open_slice hs hfu with ⟨hcs, _⟩ | ⟨x, l, c, m, n, D, Pl, hcs, _, hl, hm, hmm, hd, _⟩
  · simp [Value.cells] at hcs
    obtain ⟨rfl, rfl, rfl⟩ := hcs
    omega
  · simp [Value.cells] at hcs
    obtain ⟨rfl, rfl, rfl⟩ := hcs
    have hlm : len ≤ m := by rw [hmm]; split <;> omega
    have hb := hw (m * 48) (by
      have hd1 : d = _ := congrArg Prod.fst hd
      rw [hd1]
      unfold DataW.weights
      rw [hs]
      simp only [hby]
      refine List.mem_cons.2 (.inl ?_)
      simp only [List.length_map, List.length_range]
      congr 1
      omega)
    unfold reachBytes at hb
    omega
end
end Go.Proofs.Ytilbhnloelgpdaa
namespace Go.Proofs.Ytilbhnloelgpdaa
open Go.RowKit
set_option linter.unusedVariables false
set_option linter.unusedSimpArgs false
theorem eq_order (w : World) (a b c d e : Int) (f : Bool) : (Op.equalIn 10000 33 (.agg #[.int .i64 a, .int .i64 b, .int .i64 c, .int .i64 d, .int .i64 e, .bool f]) (.agg #[.int .i64 a, .int .i64 b, .int .i64 c, .int .i64 d, .int .i64 e, .bool f])).run Try.prog w = .ok true w := by
  simp [Op.eqFields, part, go_sem, Try.underlying33, Try.isAgg3, Try.isAgg4]
set_option maxHeartbeats 4000000 in
theorem samefills_calls (w : World) (A B : Option Addr) (L : List Fil) (c d : Nat) (hA : FRow w A L) (hB : FRow w B L) (hl : L.length ≤ 4000000000000) :
    Calls Try.prog 17 #[.slice A L.length c, .slice B L.length d] w (Told w (.bool true)) := by
  have HA := Lib.hid hA
  have HB := Lib.hid hB
  obtain ⟨m, hm⟩ : ∃ m, Hid (L.length = m) := ⟨_, Lib.hid rfl⟩
  rw [hm.out] at hl ⊢
  have hmm : ((m : Int) != (m : Int)) = false := by simp
  clear hA hB
  go_enter Try.func17, Try.ntmps17
  go_upto_region 4 with (fail)
  go_loopg [5] (m + 1) (fun gk s5 wr => ∃ i : Nat, gk = m + 1 - i ∧ i ≤ m ∧ s5 = .int .i64 (i : Int) ∧ Hid (Below w.heap.size w wr))
  case atStart => exact ⟨0, rfl, Nat.zero_le _, rfl, Lib.hid (Below.refl _ _)⟩
  case round =>
    obtain ⟨i, rfl, hi, rfl, hb⟩ := hrel
    have i0 : (0 : Int) ≤ (i : Int) := by omega
    by_cases hil : i < m
    · have hiI : (i : Int) < (m : Int) := by omega
      have hiL : Hid (i < L.length) := Lib.hid (by rw [hm.out]; exact hil)
      obtain ⟨b, o, rfl⟩ : ∃ b o, A = some ⟨b, o, none⟩ := by
        obtain ⟨b, o, e, _⟩ := HA.out.cells hiL.out
        exact ⟨b, o, e⟩
      obtain ⟨b2, o2, rfl⟩ : ∃ b o, B = some ⟨b, o, none⟩ := by
        obtain ⟨b, o, e, _⟩ := HB.out.cells hiL.out
        exact ⟨b, o, e⟩
      obtain ⟨c0, c1, c2⟩ := FRow.three HA.out hiL.out hb.out
      obtain ⟨d0, d1, d2⟩ := FRow.three HB.out hiL.out hb.out
      generalize L.getD i fil0 = f at c0 c1 c2 d0 d1 d2
      obtain ⟨fi, fo, fa⟩ := f
      simp only at c0 c1 c2 d0 d1 d2
      have HM := Lib.hid (show m + 1 - (i + 1) < m + 1 - i by omega)
      have hq := fun wx => eq_fill wx fi fo fa
      go_wp2_with (fail)
      go_quiet (fail)
      go_wp2
      go_roundg (m + 1 - (i + 1))
      case measure => exact HM.out
      case rel => exact ⟨i + 1, rfl, by omega, by first | rfl | go_num, Lib.hid (below_draw hb.out _)⟩
    · obtain rfl : m = i := by omega
      go_wp2
      refine bodyPost_ret (by simp [results, Try.results17, asAddr, go_sem]; rfl) rfl ?_
      exact ⟨rfl, hb.out⟩
set_option maxHeartbeats 4000000 in
theorem same_calls (w : World) (A B : Option Addr) (L : List Ord) (c d : Nat) (hA : ORow w A L) (hB : ORow w B L) (hl : L.length ≤ 4000000000000) :
    Calls Try.prog 19 #[.slice A L.length c, .slice B L.length d] w (Told w (.bool true)) := by
  have HA := Lib.hid hA
  have HB := Lib.hid hB
  obtain ⟨m, hm⟩ : ∃ m, Hid (L.length = m) := ⟨_, Lib.hid rfl⟩
  rw [hm.out] at hl ⊢
  have hmm : ((m : Int) != (m : Int)) = false := by simp
  clear hA hB
  go_enter Try.func19, Try.ntmps19
  go_upto_region 4 with (fail)
  go_loopg [5] (m + 1) (fun gk s5 wr => ∃ i : Nat, gk = m + 1 - i ∧ i ≤ m ∧ s5 = .int .i64 (i : Int) ∧ Hid (Below w.heap.size w wr))
  case atStart => exact ⟨0, rfl, Nat.zero_le _, rfl, Lib.hid (Below.refl _ _)⟩
  case round =>
    obtain ⟨i, rfl, hi, rfl, hb⟩ := hrel
    have i0 : (0 : Int) ≤ (i : Int) := by omega
    by_cases hil : i < m
    · have hiI : (i : Int) < (m : Int) := by omega
      have hiL : Hid (i < L.length) := Lib.hid (by rw [hm.out]; exact hil)
      obtain ⟨b, o, rfl⟩ : ∃ b o, A = some ⟨b, o, none⟩ := by
        obtain ⟨b, o, e, _⟩ := HA.out.cells hiL.out
        exact ⟨b, o, e⟩
      obtain ⟨b2, o2, rfl⟩ : ∃ b o, B = some ⟨b, o, none⟩ := by
        obtain ⟨b, o, e, _⟩ := HB.out.cells hiL.out
        exact ⟨b, o, e⟩
      obtain ⟨c0, c1, c2, c3, c4, c5⟩ := ORow.six HA.out hiL.out hb.out
      obtain ⟨d0, d1, d2, d3, d4, d5⟩ := ORow.six HB.out hiL.out hb.out
      generalize L.getD i ord0 = q at c0 c1 c2 c3 c4 c5 d0 d1 d2 d3 d4 d5
      obtain ⟨qi, qo, qp, qa, qpl, qb⟩ := q
      simp only at c0 c1 c2 c3 c4 c5 d0 d1 d2 d3 d4 d5
      have HM := Lib.hid (show m + 1 - (i + 1) < m + 1 - i by omega)
      have hq := fun wx => eq_order wx qi qo qp qa qpl qb
      go_wp2_with (fail)
      go_quiet (fail)
      go_wp2
      go_roundg (m + 1 - (i + 1))
      case measure => exact HM.out
      case rel => exact ⟨i + 1, rfl, by omega, by first | rfl | go_num, Lib.hid (below_draw hb.out _)⟩
    · obtain rfl : m = i := by omega
      go_wp2
      refine bodyPost_ret (by simp [results, Try.results19, asAddr, go_sem]; rfl) rfl ?_
      exact ⟨rfl, hb.out⟩
set_option maxHeartbeats 2000000 in
theorem before_calls (w : World) (x y : Ord) : Calls Try.prog 40 #[oval x, oval y] w (Told w (.bool (fst x.buys x y))) := by
  obtain ⟨xi, xo, xp, xa, xpl, xb⟩ := x
  obtain ⟨yi, yo, yp, ya, ypl, yb⟩ := y
  have hE : Hid (fst xb ⟨xi, xo, xp, xa, xpl, xb⟩ ⟨yi, yo, yp, ya, ypl, yb⟩ = if xp = yp then decide (xpl < ypl) else (decide (yp < xp) == xb)) := Lib.hid (by
    unfold fst
    simp only
    by_cases h : xp = yp
    · rw [if_pos h, if_pos h]
    · rw [if_neg h, if_neg h]
      cases xb
      · by_cases h2 : xp < yp <;> by_cases h3 : yp < xp <;> simp [h2, h3] <;> omega
      · by_cases h3 : yp < xp <;> simp [h3])
  show Calls Try.prog 40 #[.agg #[.int .i64 xi, .int .i64 xo, .int .i64 xp, .int .i64 xa, .int .i64 xpl, .bool xb], .agg #[.int .i64 yi, .int .i64 yo, .int .i64 yp, .int .i64 ya, .int .i64 ypl, .bool yb]] w (Told w (.bool (fst xb ⟨xi, xo, xp, xa, xpl, xb⟩ ⟨yi, yo, yp, ya, ypl, yb⟩)))
  rw [hE.out]
  have hb0 : Hid (Below w.heap.size w ((w.alloc (.cells #[.int .i64 xi, .int .i64 xo, .int .i64 xp, .int .i64 xa, .int .i64 xpl, .bool xb] 33)).alloc (.cells #[.int .i64 yi, .int .i64 yo, .int .i64 yp, .int .i64 ya, .int .i64 ypl, .bool yb] 33))) := Lib.hid (((Below.refl _ _).alloc (Nat.le_refl _) _).alloc (by simp) _)
  have BX := Lib.hid ((Blk.new w 33 #[.int .i64 xi, .int .i64 xo, .int .i64 xp, .int .i64 xa, .int .i64 xpl, .bool xb]).alloc (.cells #[.int .i64 yi, .int .i64 yo, .int .i64 yp, .int .i64 ya, .int .i64 ypl, .bool yb] 33))
  have BY : Hid (Blk ((w.alloc (.cells #[.int .i64 xi, .int .i64 xo, .int .i64 xp, .int .i64 xa, .int .i64 xpl, .bool xb] 33)).alloc (.cells #[.int .i64 yi, .int .i64 yo, .int .i64 yp, .int .i64 ya, .int .i64 ypl, .bool yb] 33)) (w.heap.size + 1) 33 #[.int .i64 yi, .int .i64 yo, .int .i64 yp, .int .i64 ya, .int .i64 ypl, .bool yb]) := Lib.hid (by
    have h := Blk.new (w.alloc (.cells #[.int .i64 xi, .int .i64 xo, .int .i64 xp, .int .i64 xa, .int .i64 xpl, .bool xb] 33)) 33 #[.int .i64 yi, .int .i64 yo, .int .i64 yp, .int .i64 ya, .int .i64 ypl, .bool yb]
    rw [show (w.alloc (.cells #[.int .i64 xi, .int .i64 xo, .int .i64 xp, .int .i64 xa, .int .i64 xpl, .bool xb] 33)).heap.size = w.heap.size + 1 from by simp] at h
    exact h)
  by_cases h : xp = yp
  · rw [if_pos h]
    have hne : (xp != yp) = false := by simpa using h
    clear h
    go_enter Try.func40, Try.ntmps40
    go_upto_region 1 with (fail)
    obtain ⟨g, hg⟩ : ∃ g, w.heap.size = g := ⟨_, rfl⟩
    rw [hg] at BX BY ⊢
    clear hg
    generalize World.alloc (World.alloc w _) _ = wy at hb0 BX BY ⊢
    obtain ⟨e2, e4, e5⟩ : wy.cell? ⟨g, 2, none⟩ = some (.int .i64 xp) ∧ wy.cell? ⟨g, 4, none⟩ = some (.int .i64 xpl) ∧ wy.cell? ⟨g, 5, none⟩ = some (.bool xb) := ⟨BX.out.cell 2, BX.out.cell 4, BX.out.cell 5⟩
    obtain ⟨k2, k4⟩ : wy.cell? ⟨g + 1, 2, none⟩ = some (.int .i64 yp) ∧ wy.cell? ⟨g + 1, 4, none⟩ = some (.int .i64 ypl) := ⟨BY.out.cell 2, BY.out.cell 4⟩
    go_wp2
    (try simp only [Exit.inBlock, Exit.then])
    refine bodyPost_ret (by simp [results, Try.results40, asAddr, go_sem]; rfl) rfl (told_bool ?_ hb0.out)
    rfl
  · rw [if_neg h]
    have hne : (xp != yp) = true := by simpa using h
    clear h
    go_enter Try.func40, Try.ntmps40
    go_upto_region 1 with (fail)
    obtain ⟨g, hg⟩ : ∃ g, w.heap.size = g := ⟨_, rfl⟩
    rw [hg] at BX BY ⊢
    clear hg
    generalize World.alloc (World.alloc w _) _ = wy at hb0 BX BY ⊢
    obtain ⟨e2, e4, e5⟩ : wy.cell? ⟨g, 2, none⟩ = some (.int .i64 xp) ∧ wy.cell? ⟨g, 4, none⟩ = some (.int .i64 xpl) ∧ wy.cell? ⟨g, 5, none⟩ = some (.bool xb) := ⟨BX.out.cell 2, BX.out.cell 4, BX.out.cell 5⟩
    obtain ⟨k2, k4⟩ : wy.cell? ⟨g + 1, 2, none⟩ = some (.int .i64 yp) ∧ wy.cell? ⟨g + 1, 4, none⟩ = some (.int .i64 ypl) := ⟨BY.out.cell 2, BY.out.cell 4⟩
    go_wp2
    (try simp only [Exit.inBlock, Exit.then])
    refine bodyPost_ret (by simp [results, Try.results40, asAddr, go_sem]; rfl) rfl (told_bool ?_ hb0.out)
    rfl
end Go.Proofs.Ytilbhnloelgpdaa
namespace Go.Proofs.Ytilbhnloelgpdaa
open Go.RowKit
set_option linter.unusedVariables false
set_option linter.unusedSimpArgs false
theorem keep_box {w w1 : World} {g : Nat} {gl : Option Nat} {t : TypeId} {cs : Array Value} (h : Blk w g t cs) (ho : Only (fun k => some k = gl) w w1) (hg : gl ≠ some g) : Blk w1 g t cs := by
  have e := ho.block g h.lt fun e => hg e.symm
  unfold Blk at h ⊢
  rw [e]; exact h
set_option maxHeartbeats 4000000 in
set_option maxRecDepth 100000 in
theorem cancel_calls (w : World) (g : Nat) (gl : Option Nat) (b : Bk) (h : AtB w g gl b) (id owner : Int) : Calls Try.prog 33 #[.pointer (some ⟨g, 0, none⟩), .int .i64 id, .int .i64 owner] w fun e w' => e = .returned (.int .i64 (b.cancel id owner).2) ∧ Turns w w' g gl (b.cancel id owner).1 := by
  have H := Lib.hid h
  have HMi := Lib.hid (mine_calls w g gl b h id owner)
  have hok := Lib.hid (Bk.cancel_ok h.ok id owner)
  by_cases hz : (b.mine id owner).2 = 0
  · obtain ⟨hi, _, he⟩ := Bk.mine_zero hz
    have hE : Hid (b.cancel id owner = (⟨b.l.eraseIdx (Bk.ix b.l id), b.next⟩, 0)) := Lib.hid (by unfold Bk.cancel; rw [if_neg (by rw [hz]; simp)])
    rw [he] at HMi
    rw [hE.out] at hok ⊢
    obtain ⟨A, c, hB, hO⟩ := h.box
    have HB := Lib.hid hB
    have hfew := h.ok.few
    obtain ⟨i, hie⟩ : ∃ i, Hid (Bk.ix b.l id = i) := ⟨_, Lib.hid rfl⟩
    rw [hie.out] at hi HMi hok ⊢
    have HD := Lib.hid (fun wx (hb : Below w.heap.size w wx) => delone_calls wx A b.l c gl (hO.below hb) hfew i hi)
    have hel : Hid ((b.l.eraseIdx i).length = b.l.length - 1) := Lib.hid (List.length_eraseIdx_of_lt hi)
    obtain ⟨n, hn⟩ : ∃ n, Hid (b.l.length = n) := ⟨_, Lib.hid rfl⟩
    rw [hn.out] at HB HD hel hi hfew
    obtain ⟨n1, hn1⟩ : ∃ n1, Hid (n - 1 = n1) := ⟨_, Lib.hid rfl⟩
    rw [hn1.out] at HD hel
    have q1 : IntKind.i64.wrap ((i : Int) + 1) = (i : Int) + 1 := by rw [IntKind.wrap_i64]; omega
    have hgl := Lib.hid h.apart
    clear h hB hO hz he
    go_enter Try.func33, Try.ntmps33
    go_upto_region 3 with (go_at_call 46; (with_reducible refine HMi.out.mono ?_); rintro e w1 ⟨rfl, hh⟩; have hb1 := Lib.hid hh; clear hh)
    have BG := Lib.hid (HB.out.below hb1.out HB.out.lt)
    have x0 := BG.out.cell 0
    simp at x0
    have HDx := Lib.hid (HD.out w1 hb1.out)
    go_wp2_with (go_at_call 48; (with_reducible refine HDx.out.mono ?_); rintro e w2 ⟨rfl, hO2, hOn⟩; have HO2 := Lib.hid hO2; have HOn := Lib.hid hOn; have B2 := Lib.hid (keep_box BG.out hOn hgl.out); have z0 := B2.out.cell 0; simp at z0; have z1 := B2.out.frozen 0; clear hO2 hOn)
    refine bodyPost_ret (by simp [results, Try.results33, asAddr, go_sem]; rfl) rfl ?_
    refine ⟨rfl, gl, ⟨⟨A, c, ?_, ?_⟩, hgl.out, hok.out⟩, ?_, .inl rfl⟩
    · show Blk _ g _ #[.slice A (b.l.eraseIdx i).length c, .int .i64 b.next]
      rw [hel.out]
      exact (blk_two B2.out _).1
    · show Own _ 6 (.slice A (b.l.eraseIdx i).length c) gl (b.l.eraseIdx i).length (ocells (b.l.eraseIdx i))
      rw [hel.out]
      exact HO2.out.far hgl.out _ _
    · exact ((Only.of_below hb1.out).trans HOn.out fun x hx => .inl (.inr hx)).setCell (.inl (.inl rfl)) _
  · have hE : Hid (b.cancel id owner = (b, (b.mine id owner).2)) := Lib.hid (by unfold Bk.cancel; rw [if_pos hz])
    rw [hE.out]
    generalize (b.mine id owner).1 = m1 at HMi
    generalize (b.mine id owner).2 = m2 at HMi hz ⊢
    have hB : (m2 == 0) = false := by simpa using hz
    clear h hz
    go_enter Try.func33, Try.ntmps33
    go_wp2_with (go_at_call 46; (with_reducible refine HMi.out.mono ?_); rintro e w1 ⟨rfl, hh⟩; have hb1 := Lib.hid hh; clear hh)
    refine bodyPost_ret (by simp [results, Try.results33, asAddr, go_sem]; rfl) rfl ?_
    exact ⟨rfl, Turns.same H.out hb1.out⟩
end Go.Proofs.Ytilbhnloelgpdaa
namespace Go.Proofs.Ytilbhnloelgpdaa
open Go.RowKit
set_option linter.unusedVariables false
set_option linter.unusedSimpArgs false
theorem step_call_fun {P : Program} {ops : Array Oper} {o : Oper} {a : Act} {w : World} {K : Act → World → Prop} {Q : Exit → Act → World → Prop} {E : Prop} (hgd : o.guard = none) (f : FuncId) (args : Array Operand) (ts : Array TypeId) (ho : o.op = .call { callee := .value (.func f), args := args, argTypes := ts })
    (hf : (P.funcs[f]?).map (fun fn => (fn.name == "runtime.NumGoroutine", fn.body.isSome)) = some (false, true))
    (vs : Array Value) (hvs : args.map a.eval = vs) (h : Calls P f vs w fun e w' => ∃ v, e = .returned v ∧ K (a.put o.dst v) w') :
    if Region.wanted o (yielded ops a.tmps) = true then Oper.wp P o a w K Q else E := by
  have hw : Region.wanted o (yielded ops a.tmps) = true := by simp [Region.wanted, hgd]
  rw [if_pos hw]
  exact wp_call_fun f args ts ho hf vs hvs h
theorem turns_append2 {w wa w4 : World} {g n c4 : Nat} {gl b4 : Option Nat} {A4 : Option Addr} {v0 : Value} {L : List Ord} {nx : Int} {o2 : Ord} (hL : L.length = n) (hga : Blk wa g 76 #[v0, .int .i64 nx]) (hOn : Only (fun x => x = g ∨ some x = gl) w wa)
    (hown : Own w4 6 (.slice A4 (n + 1) c4) b4 (n + 1) (ocells L ++ ocell o2)) (hg : wa.grownBy w4 gl) (hbb : b4 = gl ∨ b4 = some wa.heap.size) (hgl : gl ≠ some g) (hok : (⟨L ++ [o2], nx⟩ : Bk).Ok) :
    Blk w4 g 76 #[v0, .int .i64 nx] ∧ Turns w (w4.setCell ⟨g, 0, none⟩ (.slice A4 (n + 1) c4)) g gl ⟨L ++ [o2], nx⟩ := by
  have hg4 : Blk w4 g 76 #[v0, .int .i64 nx] := by
    have e := hg.block g hga.lt fun e => hgl e.symm
    unfold Blk at hga ⊢
    rw [e]; exact hga
  have hb4 : b4 ≠ some g := by
    rcases hbb with e | e
    · rw [e]; exact hgl
    · rw [e]; intro e2
      have := hga.lt
      cases e2
      omega
  refine ⟨hg4, b4, ⟨⟨A4, c4, ?_, ?_⟩, hb4, hok⟩, ?_, ?_⟩
  · have := (blk_two hg4 (.slice A4 (n + 1) c4)).1
    show Blk _ g _ #[.slice A4 (L ++ [o2]).length c4, .int .i64 nx]
    rw [List.length_append, hL]; exact this
  · show Own _ 6 (.slice A4 (L ++ [o2]).length c4) b4 (L ++ [o2]).length (ocells (L ++ [o2]))
    rw [List.length_append, hL, ocells_append]
    exact hown.far hb4 _ _
  · exact (hOn.trans (Only.of_grown hg) fun x hx => .inl (.inr hx)).setCell (.inl (.inl rfl)) _
  · rcases hbb with e | e
    · exact .inl e
    · exact .inr ⟨_, e, hOn.size⟩
theorem blk_price {w : World} {g : Nat} {t : TypeId} {a0 a1 a2 a3 a4 a5 : Value} (h : Blk w g t #[a0, a1, a2, a3, a4, a5]) (u v : Value) : Blk ((w.setCell ⟨g, 2, none⟩ u).setCell ⟨g, 3, none⟩ v) g t #[a0, a1, u, v, a4, a5] := by
  have h1 := (h.set_ 2 u).set_ 3 v
  simp only [List.setIfInBounds_toArray, List.set_cons_zero, List.set_cons_succ] at h1
  exact h1
set_option maxHeartbeats 16000000 in
set_option maxRecDepth 100000 in
theorem amend_calls (w : World) (g : Nat) (gl : Option Nat) (b : Bk) (h : AtB w g gl b) (id owner price amount : Int) : Calls Try.prog 27 #[.pointer (some ⟨g, 0, none⟩), .int .i64 id, .int .i64 owner, .int .i64 price, .int .i64 amount] w fun e w' => e = .returned (.int .i64 (b.amend id owner price amount).2) ∧ Turns w w' g gl (b.amend id owner price amount).1 := by
  have H := Lib.hid h
  have HMi := Lib.hid (mine_calls w g gl b h id owner)
  have hok := Lib.hid (Bk.amend_ok h.ok id owner price amount)
  by_cases hz : (b.mine id owner).2 = 0
  · obtain ⟨hi, _, he⟩ := Bk.mine_zero hz
    have hE : b.amend id owner price amount = (if ¬ ({ b.l.getD (Bk.ix b.l id) ord0 with price := price, amount := amount } : Ord).right = true then (b, 1) else if price = (b.l.getD (Bk.ix b.l id) ord0).price ∧ amount ≤ (b.l.getD (Bk.ix b.l id) ord0).amount then (⟨b.l.set (Bk.ix b.l id) { b.l.getD (Bk.ix b.l id) ord0 with price := price, amount := amount }, b.next⟩, 0) else if 9007199254740992 ≤ b.next then (b, 2) else (⟨b.l.eraseIdx (Bk.ix b.l id) ++ [{ b.l.getD (Bk.ix b.l id) ord0 with price := price, amount := amount, place := b.next }], b.next + 1⟩, 0)) := by
      unfold Bk.amend
      rw [if_neg (by rw [hz]; simp)]
    obtain ⟨E, hEE⟩ : ∃ E, Hid (b.amend id owner price amount = E) := ⟨_, Lib.hid rfl⟩
    rw [hEE.out] at hE hok ⊢
    rw [he] at HMi
    obtain ⟨A, c, hB, hO⟩ := h.box
    have HB := Lib.hid hB
    have HO := Lib.hid hO
    have HOw := Lib.hid (hO.orow rfl).2.2
    have hfew := h.ok.few
    have hn0 := h.ok.next0
    have hn1 := h.ok.next1
    obtain ⟨i, hie⟩ : ∃ i, Hid (Bk.ix b.l id = i) := ⟨_, Lib.hid rfl⟩
    rw [hie.out] at hi HMi hE
    have hL : Hid (i < b.l.length) := Lib.hid hi
    obtain ⟨n, hn⟩ : ∃ n, Hid (b.l.length = n) := ⟨_, Lib.hid rfl⟩
    obtain ⟨nx, hnx⟩ : ∃ nx, Hid (b.next = nx) := ⟨_, Lib.hid rfl⟩
    rw [hn.out] at HB HO hi hfew
    rw [hnx.out] at HB hE hn0 hn1
    obtain ⟨bb, oo, rfl⟩ : ∃ b o, A = some ⟨b, o, none⟩ := by
      obtain ⟨b, o, e, _⟩ := HOw.out.cells hL.out
      exact ⟨b, o, e⟩
    have HC := Lib.hid (fun wx hh => ORow.six HOw.out hL.out (w' := wx) hh)
    have i0 : (0 : Int) ≤ (i : Int) := by omega
    have i1 : (i : Int) < (n : Int) := by omega
    generalize b.l.getD i ord0 = q at HC hE
    obtain ⟨qi, qo, qp, qa, qpl, qb⟩ := q
    simp only at HC hE
    have HR : Hid (∀ wx, Calls Try.prog 47 #[.agg #[.int .i64 qi, .int .i64 qo, .int .i64 price, .int .i64 amount, .int .i64 qpl, .bool qb]] wx (Told wx (.bool (Ord.right ⟨qi, qo, price, amount, qpl, qb⟩)))) := Lib.hid fun wx => right_calls wx ⟨qi, qo, price, amount, qpl, qb⟩
    generalize Ord.right ⟨qi, qo, price, amount, qpl, qb⟩ = r at HR hE
    clear h hB hO hz he
    by_cases hpq : price = qp
    · have hpB : (price == qp) = true := by simpa using hpq
      cases r with
      | false =>
        have hE3 := Lib.hid hE
        rw [if_pos (by simp)] at hE3
        rw [hE3.out]
        clear hE hpq
        by_cases haq : amount ≤ qa
        ·
          go_enter Try.func27, Try.ntmps27
          go_upto_region 4 with (go_at_call 46; (with_reducible refine HMi.out.mono ?_); rintro e w1 ⟨rfl, hh⟩; have hb1 := Lib.hid hh; clear hh)
          have BG := Lib.hid (HB.out.below hb1.out HB.out.lt)
          have x0 := BG.out.cell 0
          simp at x0
          obtain ⟨c0, c1', c2, c3, c4, c5⟩ := HC.out w1 hb1.out
          go_upto_region 5 with (fail)
          have hbx : Hid (Below w1.heap.size w1 (w1.alloc (.cells #[.int .i64 qi, .int .i64 qo, .int .i64 qp, .int .i64 qa, .int .i64 qpl, .bool qb] 33))) := Lib.hid ((Below.refl _ _).alloc (Nat.le_refl _) _)
          have BX := Lib.hid (Blk.new w1 33 #[.int .i64 qi, .int .i64 qo, .int .i64 qp, .int .i64 qa, .int .i64 qpl, .bool qb])
          obtain ⟨k, hk⟩ : ∃ k, Hid (w1.heap.size = k) := ⟨_, Lib.hid rfl⟩
          rw [hk.out] at BX ⊢
          clear c0 c1' c2 c3 c4 c5 x0
          generalize World.alloc w1 _ = wx at hbx BX ⊢
          obtain ⟨c2, c3⟩ : wx.cell? ⟨k, 2, none⟩ = some (.int .i64 qp) ∧ wx.cell? ⟨k, 3, none⟩ = some (.int .i64 qa) := ⟨BX.out.cell 2, BX.out.cell 3⟩
          obtain ⟨f2, f3⟩ : wx.frozen? ⟨k, 2, none⟩ = false ∧ wx.frozen? ⟨k, 3, none⟩ = false := ⟨BX.out.frozen 2, BX.out.frozen 3⟩
          go_upto_region 7 with (fail)
          obtain ⟨wy, hwy⟩ : ∃ wy, (wx.setCell ⟨k, 2, none⟩ (.int .i64 price)).setCell ⟨k, 3, none⟩ (.int .i64 amount) = wy := ⟨_, rfl⟩
          have BY : Hid (Blk wy k 33 #[.int .i64 qi, .int .i64 qo, .int .i64 price, .int .i64 amount, .int .i64 qpl, .bool qb]) := Lib.hid (by rw [← hwy]; exact blk_price BX.out _ _)
          have hby : Hid (Below w.heap.size w wy) := Lib.hid (by
            rw [← hwy]
            have hkk : w.heap.size ≤ k := by rw [← hk.out]; exact hb1.out.size
            exact ((below_next hb1.out hbx.out).setCell (p := ⟨k, _, none⟩) hkk _).setCell (p := ⟨k, _, none⟩) hkk _)
          rw [hwy]
          clear hwy c2 c3 f2 f3
          obtain ⟨d0, d1, d2, d3, d4, d5⟩ : wy.cell? ⟨k, 0, none⟩ = some (.int .i64 qi) ∧ wy.cell? ⟨k, 1, none⟩ = some (.int .i64 qo) ∧ wy.cell? ⟨k, 2, none⟩ = some (.int .i64 price) ∧ wy.cell? ⟨k, 3, none⟩ = some (.int .i64 amount) ∧ wy.cell? ⟨k, 4, none⟩ = some (.int .i64 qpl) ∧ wy.cell? ⟨k, 5, none⟩ = some (.bool qb) := ⟨BY.out.cell 0, BY.out.cell 1, BY.out.cell 2, BY.out.cell 3, BY.out.cell 4, BY.out.cell 5⟩
          go_upto_region 9 with (go_at_call 47; (with_reducible refine (HR.out _).mono ?_); rintro e w2 ⟨rfl, hh⟩; have hb2 := Lib.hid hh; clear hh)
          clear d0 d1 d2 d3 d4 d5
          have hbw := Lib.hid (below_next hby.out hb2.out)
          have B2 := Lib.hid (BY.out.below hb2.out BY.out.lt)
          have BG2 := Lib.hid (HB.out.below hbw.out HB.out.lt)
          go_wp2
          refine bodyPost_ret (by simp [results, Try.results27, asAddr, go_sem]; rfl) rfl ?_
          exact ⟨rfl, Turns.same H.out hbw.out⟩
        ·
          go_enter Try.func27, Try.ntmps27
          go_upto_region 4 with (go_at_call 46; (with_reducible refine HMi.out.mono ?_); rintro e w1 ⟨rfl, hh⟩; have hb1 := Lib.hid hh; clear hh)
          have BG := Lib.hid (HB.out.below hb1.out HB.out.lt)
          have x0 := BG.out.cell 0
          simp at x0
          obtain ⟨c0, c1', c2, c3, c4, c5⟩ := HC.out w1 hb1.out
          go_upto_region 5 with (fail)
          have hbx : Hid (Below w1.heap.size w1 (w1.alloc (.cells #[.int .i64 qi, .int .i64 qo, .int .i64 qp, .int .i64 qa, .int .i64 qpl, .bool qb] 33))) := Lib.hid ((Below.refl _ _).alloc (Nat.le_refl _) _)
          have BX := Lib.hid (Blk.new w1 33 #[.int .i64 qi, .int .i64 qo, .int .i64 qp, .int .i64 qa, .int .i64 qpl, .bool qb])
          obtain ⟨k, hk⟩ : ∃ k, Hid (w1.heap.size = k) := ⟨_, Lib.hid rfl⟩
          rw [hk.out] at BX ⊢
          clear c0 c1' c2 c3 c4 c5 x0
          generalize World.alloc w1 _ = wx at hbx BX ⊢
          obtain ⟨c2, c3⟩ : wx.cell? ⟨k, 2, none⟩ = some (.int .i64 qp) ∧ wx.cell? ⟨k, 3, none⟩ = some (.int .i64 qa) := ⟨BX.out.cell 2, BX.out.cell 3⟩
          obtain ⟨f2, f3⟩ : wx.frozen? ⟨k, 2, none⟩ = false ∧ wx.frozen? ⟨k, 3, none⟩ = false := ⟨BX.out.frozen 2, BX.out.frozen 3⟩
          go_upto_region 7 with (fail)
          obtain ⟨wy, hwy⟩ : ∃ wy, (wx.setCell ⟨k, 2, none⟩ (.int .i64 price)).setCell ⟨k, 3, none⟩ (.int .i64 amount) = wy := ⟨_, rfl⟩
          have BY : Hid (Blk wy k 33 #[.int .i64 qi, .int .i64 qo, .int .i64 price, .int .i64 amount, .int .i64 qpl, .bool qb]) := Lib.hid (by rw [← hwy]; exact blk_price BX.out _ _)
          have hby : Hid (Below w.heap.size w wy) := Lib.hid (by
            rw [← hwy]
            have hkk : w.heap.size ≤ k := by rw [← hk.out]; exact hb1.out.size
            exact ((below_next hb1.out hbx.out).setCell (p := ⟨k, _, none⟩) hkk _).setCell (p := ⟨k, _, none⟩) hkk _)
          rw [hwy]
          clear hwy c2 c3 f2 f3
          obtain ⟨d0, d1, d2, d3, d4, d5⟩ : wy.cell? ⟨k, 0, none⟩ = some (.int .i64 qi) ∧ wy.cell? ⟨k, 1, none⟩ = some (.int .i64 qo) ∧ wy.cell? ⟨k, 2, none⟩ = some (.int .i64 price) ∧ wy.cell? ⟨k, 3, none⟩ = some (.int .i64 amount) ∧ wy.cell? ⟨k, 4, none⟩ = some (.int .i64 qpl) ∧ wy.cell? ⟨k, 5, none⟩ = some (.bool qb) := ⟨BY.out.cell 0, BY.out.cell 1, BY.out.cell 2, BY.out.cell 3, BY.out.cell 4, BY.out.cell 5⟩
          go_upto_region 9 with (go_at_call 47; (with_reducible refine (HR.out _).mono ?_); rintro e w2 ⟨rfl, hh⟩; have hb2 := Lib.hid hh; clear hh)
          clear d0 d1 d2 d3 d4 d5
          have hbw := Lib.hid (below_next hby.out hb2.out)
          have B2 := Lib.hid (BY.out.below hb2.out BY.out.lt)
          have BG2 := Lib.hid (HB.out.below hbw.out HB.out.lt)
          go_wp2
          refine bodyPost_ret (by simp [results, Try.results27, asAddr, go_sem]; rfl) rfl ?_
          exact ⟨rfl, Turns.same H.out hbw.out⟩
      | true =>
        rw [if_neg (by simp)] at hE
        by_cases haq : amount ≤ qa
        · have hE3 := Lib.hid hE
          rw [if_pos ⟨hpq, haq⟩] at hE3
          rw [hE3.out] at hok ⊢
          clear hE hpq
          go_enter Try.func27, Try.ntmps27
          go_upto_region 4 with (go_at_call 46; (with_reducible refine HMi.out.mono ?_); rintro e w1 ⟨rfl, hh⟩; have hb1 := Lib.hid hh; clear hh)
          have BG := Lib.hid (HB.out.below hb1.out HB.out.lt)
          have x0 := BG.out.cell 0
          simp at x0
          obtain ⟨c0, c1', c2, c3, c4, c5⟩ := HC.out w1 hb1.out
          go_upto_region 5 with (fail)
          have hbx : Hid (Below w1.heap.size w1 (w1.alloc (.cells #[.int .i64 qi, .int .i64 qo, .int .i64 qp, .int .i64 qa, .int .i64 qpl, .bool qb] 33))) := Lib.hid ((Below.refl _ _).alloc (Nat.le_refl _) _)
          have BX := Lib.hid (Blk.new w1 33 #[.int .i64 qi, .int .i64 qo, .int .i64 qp, .int .i64 qa, .int .i64 qpl, .bool qb])
          obtain ⟨k, hk⟩ : ∃ k, Hid (w1.heap.size = k) := ⟨_, Lib.hid rfl⟩
          rw [hk.out] at BX ⊢
          clear c0 c1' c2 c3 c4 c5 x0
          generalize World.alloc w1 _ = wx at hbx BX ⊢
          obtain ⟨c2, c3⟩ : wx.cell? ⟨k, 2, none⟩ = some (.int .i64 qp) ∧ wx.cell? ⟨k, 3, none⟩ = some (.int .i64 qa) := ⟨BX.out.cell 2, BX.out.cell 3⟩
          obtain ⟨f2, f3⟩ : wx.frozen? ⟨k, 2, none⟩ = false ∧ wx.frozen? ⟨k, 3, none⟩ = false := ⟨BX.out.frozen 2, BX.out.frozen 3⟩
          go_upto_region 7 with (fail)
          obtain ⟨wy, hwy⟩ : ∃ wy, (wx.setCell ⟨k, 2, none⟩ (.int .i64 price)).setCell ⟨k, 3, none⟩ (.int .i64 amount) = wy := ⟨_, rfl⟩
          have BY : Hid (Blk wy k 33 #[.int .i64 qi, .int .i64 qo, .int .i64 price, .int .i64 amount, .int .i64 qpl, .bool qb]) := Lib.hid (by rw [← hwy]; exact blk_price BX.out _ _)
          have hby : Hid (Below w.heap.size w wy) := Lib.hid (by
            rw [← hwy]
            have hkk : w.heap.size ≤ k := by rw [← hk.out]; exact hb1.out.size
            exact ((below_next hb1.out hbx.out).setCell (p := ⟨k, _, none⟩) hkk _).setCell (p := ⟨k, _, none⟩) hkk _)
          rw [hwy]
          clear hwy c2 c3 f2 f3
          obtain ⟨d0, d1, d2, d3, d4, d5⟩ : wy.cell? ⟨k, 0, none⟩ = some (.int .i64 qi) ∧ wy.cell? ⟨k, 1, none⟩ = some (.int .i64 qo) ∧ wy.cell? ⟨k, 2, none⟩ = some (.int .i64 price) ∧ wy.cell? ⟨k, 3, none⟩ = some (.int .i64 amount) ∧ wy.cell? ⟨k, 4, none⟩ = some (.int .i64 qpl) ∧ wy.cell? ⟨k, 5, none⟩ = some (.bool qb) := ⟨BY.out.cell 0, BY.out.cell 1, BY.out.cell 2, BY.out.cell 3, BY.out.cell 4, BY.out.cell 5⟩
          go_upto_region 9 with (go_at_call 47; (with_reducible refine (HR.out _).mono ?_); rintro e w2 ⟨rfl, hh⟩; have hb2 := Lib.hid hh; clear hh)
          clear d0 d1 d2 d3 d4 d5
          have hbw := Lib.hid (below_next hby.out hb2.out)
          have B2 := Lib.hid (BY.out.below hb2.out BY.out.lt)
          have BG2 := Lib.hid (HB.out.below hbw.out HB.out.lt)
          have HO2 := Lib.hid (HO.out.below hbw.out)
          have hov := Lib.hid (HO2.out.over (p := i * 6) (vs := ocell ⟨qi, qo, price, amount, qpl, qb⟩) (by rw [ocell_length]; omega) (by rw [ocell_length]; omega))
          obtain ⟨g', off', egl, eA, hce, hOw2⟩ := hov.out
          cases eA
          have HT : Hid (Turns w (w2.setCells bb (oo + i * 6) (ocell ⟨qi, qo, price, amount, qpl, qb⟩)) g gl ⟨b.l.set i ⟨qi, qo, price, amount, qpl, qb⟩, nx⟩) := Lib.hid (by
            have ho := (only_setCells w2 bb (oo + i * 6) (ocell ⟨qi, qo, price, amount, qpl, qb⟩)).mono (S' := fun x => some x = gl) fun x hx => by rw [hx, egl]
            refine ⟨gl, ⟨⟨some ⟨bb, oo, none⟩, c, ?_, ?_⟩, H.out.apart, hok.out⟩, (Only.of_below hbw.out).trans ho fun x hx => .inl (.inr hx), .inl rfl⟩
            · show Blk _ g _ #[.slice (some ⟨bb, oo, none⟩) (b.l.set i _).length c, .int .i64 nx]
              rw [List.length_set, hn.out]
              exact keep_box BG2.out ho H.out.apart
            · show Own _ 6 (.slice (some ⟨bb, oo, none⟩) (b.l.set i _).length c) gl (b.l.set i _).length (ocells (b.l.set i _))
              rw [List.length_set, hn.out, ← over_ocells b.l hL.out]
              exact hOw2)
          have x0 := BG2.out.cell 0
          simp at x0
          obtain ⟨d0, d1, d2, d3, d4, d5⟩ : w2.cell? ⟨k, 0, none⟩ = some (.int .i64 qi) ∧ w2.cell? ⟨k, 1, none⟩ = some (.int .i64 qo) ∧ w2.cell? ⟨k, 2, none⟩ = some (.int .i64 price) ∧ w2.cell? ⟨k, 3, none⟩ = some (.int .i64 amount) ∧ w2.cell? ⟨k, 4, none⟩ = some (.int .i64 qpl) ∧ w2.cell? ⟨k, 5, none⟩ = some (.bool qb) := ⟨B2.out.cell 0, B2.out.cell 1, B2.out.cell 2, B2.out.cell 3, B2.out.cell 4, B2.out.cell 5⟩
          obtain ⟨c0, c1', c2, c3, c4, c5⟩ := HC.out w2 hbw.out
          obtain ⟨f0, f1, f2, f3, f4, f5⟩ : (w2.frozen? ⟨bb, oo + i * 6, none⟩ = false ∧ w2.frozen? ⟨bb, oo + i * 6 + 1, none⟩ = false ∧ w2.frozen? ⟨bb, oo + i * 6 + 2, none⟩ = false ∧ w2.frozen? ⟨bb, oo + i * 6 + 3, none⟩ = false ∧ w2.frozen? ⟨bb, oo + i * 6 + 4, none⟩ = false ∧ w2.frozen? ⟨bb, oo + i * 6 + 5, none⟩ = false) := ⟨(hce 0 (by rw [ocell_length]; omega)).2, (hce 1 (by rw [ocell_length]; omega)).2, (hce 2 (by rw [ocell_length]; omega)).2, (hce 3 (by rw [ocell_length]; omega)).2, (hce 4 (by rw [ocell_length]; omega)).2, (hce 5 (by rw [ocell_length]; omega)).2⟩
          clear hce hOw2 egl
          go_upto_region 10 with (fail)
          go_region
          go_wp2
          refine bodyPost_ret (by simp [results, Try.results27, asAddr, go_sem]; rfl) rfl ?_
          refine ⟨rfl, ?_⟩
          obtain ⟨gl', t1, t2, t3⟩ := HT.out
          exact ⟨gl', t1.below (Below.refl _ _).drew, t2.then_below (Below.refl _ _).drew, t3⟩
        · rw [if_neg (fun hh => haq hh.2)] at hE
          clear hpq
          by_cases hfull : 9007199254740992 ≤ nx
          · have hE3 := Lib.hid hE
            rw [if_pos hfull] at hE3
            rw [hE3.out]
            clear hE
            go_enter Try.func27, Try.ntmps27
            go_upto_region 4 with (go_at_call 46; (with_reducible refine HMi.out.mono ?_); rintro e w1 ⟨rfl, hh⟩; have hb1 := Lib.hid hh; clear hh)
            have BG := Lib.hid (HB.out.below hb1.out HB.out.lt)
            have x0 := BG.out.cell 0
            simp at x0
            obtain ⟨c0, c1', c2, c3, c4, c5⟩ := HC.out w1 hb1.out
            go_upto_region 5 with (fail)
            have hbx : Hid (Below w1.heap.size w1 (w1.alloc (.cells #[.int .i64 qi, .int .i64 qo, .int .i64 qp, .int .i64 qa, .int .i64 qpl, .bool qb] 33))) := Lib.hid ((Below.refl _ _).alloc (Nat.le_refl _) _)
            have BX := Lib.hid (Blk.new w1 33 #[.int .i64 qi, .int .i64 qo, .int .i64 qp, .int .i64 qa, .int .i64 qpl, .bool qb])
            obtain ⟨k, hk⟩ : ∃ k, Hid (w1.heap.size = k) := ⟨_, Lib.hid rfl⟩
            rw [hk.out] at BX ⊢
            clear c0 c1' c2 c3 c4 c5 x0
            generalize World.alloc w1 _ = wx at hbx BX ⊢
            obtain ⟨c2, c3⟩ : wx.cell? ⟨k, 2, none⟩ = some (.int .i64 qp) ∧ wx.cell? ⟨k, 3, none⟩ = some (.int .i64 qa) := ⟨BX.out.cell 2, BX.out.cell 3⟩
            obtain ⟨f2, f3⟩ : wx.frozen? ⟨k, 2, none⟩ = false ∧ wx.frozen? ⟨k, 3, none⟩ = false := ⟨BX.out.frozen 2, BX.out.frozen 3⟩
            go_upto_region 7 with (fail)
            obtain ⟨wy, hwy⟩ : ∃ wy, (wx.setCell ⟨k, 2, none⟩ (.int .i64 price)).setCell ⟨k, 3, none⟩ (.int .i64 amount) = wy := ⟨_, rfl⟩
            have BY : Hid (Blk wy k 33 #[.int .i64 qi, .int .i64 qo, .int .i64 price, .int .i64 amount, .int .i64 qpl, .bool qb]) := Lib.hid (by rw [← hwy]; exact blk_price BX.out _ _)
            have hby : Hid (Below w.heap.size w wy) := Lib.hid (by
              rw [← hwy]
              have hkk : w.heap.size ≤ k := by rw [← hk.out]; exact hb1.out.size
              exact ((below_next hb1.out hbx.out).setCell (p := ⟨k, _, none⟩) hkk _).setCell (p := ⟨k, _, none⟩) hkk _)
            rw [hwy]
            clear hwy c2 c3 f2 f3
            obtain ⟨d0, d1, d2, d3, d4, d5⟩ : wy.cell? ⟨k, 0, none⟩ = some (.int .i64 qi) ∧ wy.cell? ⟨k, 1, none⟩ = some (.int .i64 qo) ∧ wy.cell? ⟨k, 2, none⟩ = some (.int .i64 price) ∧ wy.cell? ⟨k, 3, none⟩ = some (.int .i64 amount) ∧ wy.cell? ⟨k, 4, none⟩ = some (.int .i64 qpl) ∧ wy.cell? ⟨k, 5, none⟩ = some (.bool qb) := ⟨BY.out.cell 0, BY.out.cell 1, BY.out.cell 2, BY.out.cell 3, BY.out.cell 4, BY.out.cell 5⟩
            go_upto_region 9 with (go_at_call 47; (with_reducible refine (HR.out _).mono ?_); rintro e w2 ⟨rfl, hh⟩; have hb2 := Lib.hid hh; clear hh)
            clear d0 d1 d2 d3 d4 d5
            have hbw := Lib.hid (below_next hby.out hb2.out)
            have B2 := Lib.hid (BY.out.below hb2.out BY.out.lt)
            have BG2 := Lib.hid (HB.out.below hbw.out HB.out.lt)
            have x1 := BG2.out.cell 1
            simp at x1
            go_wp2
            refine bodyPost_ret (by simp [results, Try.results27, asAddr, go_sem]; rfl) rfl ?_
            exact ⟨rfl, Turns.same H.out hbw.out⟩
          · have hE3 := Lib.hid hE
            rw [if_neg hfull] at hE3
            rw [hE3.out] at hok ⊢
            clear hE
            have qn : IntKind.i64.wrap (nx + 1) = nx + 1 := by rw [IntKind.wrap_i64]; omega
            have qi1 : IntKind.i64.wrap ((i : Int) + 1) = (i : Int) + 1 := by rw [IntKind.wrap_i64]; omega
            obtain ⟨j1, hj1, hy0, hy1, hy2⟩ := info_parts info_order
            have HI1 := Lib.hid hj1
            have HY0 := Lib.hid hy0
            have HY1 := Lib.hid hy1
            have HY2 := Lib.hid hy2
            have hel : Hid ((b.l.eraseIdx i).length = n - 1) := Lib.hid (by rw [List.length_eraseIdx_of_lt hL.out, hn.out])
            have hA1 : Hid (n - 1 + 1 ≤ maxLen) := Lib.hid (by unfold maxLen; omega)
            have hA2 : Hid ((n - 1 + 1) * 48 ≤ 140737488355328) := Lib.hid (by omega)
            clear hj1 hy0 hy1 hy2
            go_enter Try.func27, Try.ntmps27
            go_upto_region 4 with (go_at_call 46; (with_reducible refine HMi.out.mono ?_); rintro e w1 ⟨rfl, hh⟩; have hb1 := Lib.hid hh; clear hh)
            have BG := Lib.hid (HB.out.below hb1.out HB.out.lt)
            have x0 := BG.out.cell 0
            simp at x0
            obtain ⟨c0, c1', c2, c3, c4, c5⟩ := HC.out w1 hb1.out
            go_upto_region 5 with (fail)
            have hbx : Hid (Below w1.heap.size w1 (w1.alloc (.cells #[.int .i64 qi, .int .i64 qo, .int .i64 qp, .int .i64 qa, .int .i64 qpl, .bool qb] 33))) := Lib.hid ((Below.refl _ _).alloc (Nat.le_refl _) _)
            have BX := Lib.hid (Blk.new w1 33 #[.int .i64 qi, .int .i64 qo, .int .i64 qp, .int .i64 qa, .int .i64 qpl, .bool qb])
            obtain ⟨k, hk⟩ : ∃ k, Hid (w1.heap.size = k) := ⟨_, Lib.hid rfl⟩
            rw [hk.out] at BX ⊢
            clear c0 c1' c2 c3 c4 c5 x0
            generalize World.alloc w1 _ = wx at hbx BX ⊢
            obtain ⟨c2, c3⟩ : wx.cell? ⟨k, 2, none⟩ = some (.int .i64 qp) ∧ wx.cell? ⟨k, 3, none⟩ = some (.int .i64 qa) := ⟨BX.out.cell 2, BX.out.cell 3⟩
            obtain ⟨f2, f3⟩ : wx.frozen? ⟨k, 2, none⟩ = false ∧ wx.frozen? ⟨k, 3, none⟩ = false := ⟨BX.out.frozen 2, BX.out.frozen 3⟩
            go_upto_region 7 with (fail)
            obtain ⟨wy, hwy⟩ : ∃ wy, (wx.setCell ⟨k, 2, none⟩ (.int .i64 price)).setCell ⟨k, 3, none⟩ (.int .i64 amount) = wy := ⟨_, rfl⟩
            have BY : Hid (Blk wy k 33 #[.int .i64 qi, .int .i64 qo, .int .i64 price, .int .i64 amount, .int .i64 qpl, .bool qb]) := Lib.hid (by rw [← hwy]; exact blk_price BX.out _ _)
            have hby : Hid (Below w.heap.size w wy) := Lib.hid (by
              rw [← hwy]
              have hkk : w.heap.size ≤ k := by rw [← hk.out]; exact hb1.out.size
              exact ((below_next hb1.out hbx.out).setCell (p := ⟨k, _, none⟩) hkk _).setCell (p := ⟨k, _, none⟩) hkk _)
            rw [hwy]
            clear hwy c2 c3 f2 f3
            obtain ⟨d0, d1, d2, d3, d4, d5⟩ : wy.cell? ⟨k, 0, none⟩ = some (.int .i64 qi) ∧ wy.cell? ⟨k, 1, none⟩ = some (.int .i64 qo) ∧ wy.cell? ⟨k, 2, none⟩ = some (.int .i64 price) ∧ wy.cell? ⟨k, 3, none⟩ = some (.int .i64 amount) ∧ wy.cell? ⟨k, 4, none⟩ = some (.int .i64 qpl) ∧ wy.cell? ⟨k, 5, none⟩ = some (.bool qb) := ⟨BY.out.cell 0, BY.out.cell 1, BY.out.cell 2, BY.out.cell 3, BY.out.cell 4, BY.out.cell 5⟩
            go_upto_region 9 with (go_at_call 47; (with_reducible refine (HR.out _).mono ?_); rintro e w2 ⟨rfl, hh⟩; have hb2 := Lib.hid hh; clear hh)
            clear d0 d1 d2 d3 d4 d5
            have hbw := Lib.hid (below_next hby.out hb2.out)
            have B2 := Lib.hid (BY.out.below hb2.out BY.out.lt)
            have BG2 := Lib.hid (HB.out.below hbw.out HB.out.lt)
            have hgk : Hid (g ≠ k ∧ gl ≠ some k ∧ gl ≠ some g ∧ w.heap.size ≤ k) := Lib.hid (by
              have hkk : w.heap.size ≤ k := by rw [← hk.out]; exact hb1.out.size
              refine ⟨by have := H.out.lt; omega, fun e => ?_, H.out.apart, hkk⟩
              have := HO.out.lt e
              omega)
            have x0 := BG2.out.cell 0
            have x1 := BG2.out.cell 1
            simp at x0 x1
            have x2 := BG2.out.frozen 1
            have y0 := B2.out.cell 4
            simp at y0
            have y1 := B2.out.frozen 4
            have hgk1 : g ≠ k := hgk.out.1
            have hgk2 : k ≠ g := fun e => hgk1 e.symm
            go_upto_region 16 with (fail)
            obtain ⟨w3, hw3⟩ : ∃ w3, (w2.setCell ⟨k, 4, none⟩ (.int .i64 nx)).setCell ⟨g, 1, none⟩ (.int .i64 (nx + 1)) = w3 := ⟨_, rfl⟩
            have HBK : Hid (Blk w3 k 33 #[.int .i64 qi, .int .i64 qo, .int .i64 price, .int .i64 amount, .int .i64 nx, .bool qb]) := Lib.hid (by rw [← hw3]; exact (blk_place B2.out _).far hgk2 _)
            have HBG : Hid (Blk w3 g 76 #[.slice (some ⟨bb, oo, none⟩) n c, .int .i64 (nx + 1)]) := Lib.hid (by rw [← hw3]; exact (blk_two (BG2.out.far hgk1 _) _).2)
            have HOw3 : Hid (Own w3 6 (.slice (some ⟨bb, oo, none⟩) n c) gl n (ocells b.l)) := Lib.hid (by rw [← hw3]; exact ((HO.out.below hbw.out).far hgk.out.2.1 _ _).far hgk.out.2.2.1 _ _)
            have HOn : Hid (Only (fun x => x = g ∨ some x = gl) w w3) := Lib.hid (by rw [← hw3]; exact ((Only.of_below hbw.out).setCell (.inr hgk.out.2.2.2) _).setCell (.inl (.inl rfl)) _)
            rw [hw3]
            clear hw3 x0 x1 x2 y0 y1 BG2 B2
            have hBX : Hid (∀ o, Below w3.heap.size w3 (w3.alloc o).drew) := Lib.hid fun o => ((Below.refl _ _).alloc (Nat.le_refl _) o).drew
            have HD : Hid (∀ wx, Below w3.heap.size w3 wx → Calls Try.prog 48 #[.slice (some ⟨bb, oo, none⟩) n c, .int .i64 (i : Int), .int .i64 ((i : Int) + 1)] wx fun e w' => e = .returned (.slice (some ⟨bb, oo, none⟩) (n - 1) c) ∧ Own w' 6 (.slice (some ⟨bb, oo, none⟩) (n - 1) c) gl (n - 1) (ocells (b.l.eraseIdx i)) ∧ Only (fun k => some k = gl) wx w') := Lib.hid fun wx hb => by
              have := delone_calls wx (some ⟨bb, oo, none⟩) b.l c gl (by rw [hn.out]; exact HOw3.out.below hb) (by rw [hn.out]; exact hfew) i hL.out
              rwa [hn.out] at this
            have HF : Hid (∀ wx w5, Below w3.heap.size w3 wx → Only (fun k => some k = gl) wx w5 → Blk w5 g 76 #[.slice (some ⟨bb, oo, none⟩) n c, .int .i64 (nx + 1)] ∧ Blk w5 k 33 #[.int .i64 qi, .int .i64 qo, .int .i64 price, .int .i64 amount, .int .i64 nx, .bool qb] ∧ Only (fun x => x = g ∨ some x = gl) w w5) := Lib.hid fun wx w5 hb ho => ⟨keep_box (HBG.out.below hb HBG.out.lt) ho hgk.out.2.2.1, keep_box (HBK.out.below hb HBK.out.lt) ho hgk.out.2.1, (HOn.out.then_below hb).trans ho fun x hx => .inl (.inr hx)⟩
            have hglw : Hid (∀ kk, gl = some kk → kk < w3.heap.size) := Lib.hid fun kk e => HOw3.out.lt e
            have HSa : Hid (∀ w5, Only (fun k => some k = gl) (w3.alloc (.cells #[.int .i64 qi, .int .i64 qo, .int .i64 price, .int .i64 amount, .int .i64 nx, .bool qb] 33)).drew w5 → Src Try.prog 6 22 (.slice (some ⟨w3.heap.size, 0, none⟩) 1 1) 1 (ocell ⟨qi, qo, price, amount, nx, qb⟩) w5) := Lib.hid fun w5 ho => by
              have hb5 : Blk w5 w3.heap.size 33 (ocell ⟨qi, qo, price, amount, nx, qb⟩).toArray := keep_box (Blk.new w3 33 (ocell ⟨qi, qo, price, amount, nx, qb⟩).toArray).drew ho (fun e => Nat.lt_irrefl _ (hglw.out _ e))
              refine Src.ofSlice _ Try.underlying22 ⟨w3.heap.size, 0, none⟩ 1 1 (ocell ⟨qi, qo, price, amount, nx, qb⟩) rfl (fun j u hu => ?_) (by simp [ocell, Value.oneCell'])
              rw [show (⟨w3.heap.size, 0, none⟩ : Addr).add j = ⟨w3.heap.size, j, none⟩ from by simp [Addr.add_lit], hb5.cell j, ← hu]
              simp
            have HSb : Hid (∀ wx : World, Src Try.prog 6 22 (.slice (some ⟨wx.heap.size, 0, none⟩) 1 1) 1 (ocell ⟨qi, qo, price, amount, nx, qb⟩) (wx.alloc (.cells (ocell ⟨qi, qo, price, amount, nx, qb⟩).toArray 33))) := Lib.hid fun wx => src_new Try.underlying22 wx _ _ 1 1 rfl (by simp [ocell, Value.oneCell'])
            obtain ⟨x0, y0, y1, y2, y3, y4, y5⟩ : w3.cell? ⟨g, 0, none⟩ = some (.slice (some ⟨bb, oo, none⟩) n c) ∧ w3.cell? ⟨k, 0, none⟩ = some (.int .i64 qi) ∧ w3.cell? ⟨k, 1, none⟩ = some (.int .i64 qo) ∧ w3.cell? ⟨k, 2, none⟩ = some (.int .i64 price) ∧ w3.cell? ⟨k, 3, none⟩ = some (.int .i64 amount) ∧ w3.cell? ⟨k, 4, none⟩ = some (.int .i64 nx) ∧ w3.cell? ⟨k, 5, none⟩ = some (.bool qb) := ⟨HBG.out.cell 0, HBK.out.cell 0, HBK.out.cell 1, HBK.out.cell 2, HBK.out.cell 3, HBK.out.cell 4, HBK.out.cell 5⟩
            have xs1 : (w3.alloc (.cells #[.int .i64 qi, .int .i64 qo, .int .i64 price, .int .i64 amount, .int .i64 nx, .bool qb] 33)).cell? ⟨g, 0, none⟩ = some (.slice (some ⟨bb, oo, none⟩) n c) := (HBG.out.below ((Below.refl _ _).alloc (Nat.le_refl _) _) HBG.out.lt).cell 0
            have HT2 := Lib.hid (fun (A4 : Option Addr) (c4 : Nat) (wa w4 : World) (b4 : Option Nat) (hga : Blk wa g 76 #[.slice (some ⟨bb, oo, none⟩) n c, .int .i64 (nx + 1)]) (hon : Only (fun x => x = g ∨ some x = gl) w wa) (hown : Own w4 6 (.slice A4 (n - 1 + 1) c4) b4 (n - 1 + 1) (ocells (b.l.eraseIdx i) ++ ocell ⟨qi, qo, price, amount, nx, qb⟩)) (hgr : wa.grownBy w4 gl) (hbb : b4 = gl ∨ b4 = some wa.heap.size) => turns_append2 hel.out hga hon hown hgr hbb hgk.out.2.2.1 hok.out)
            clear HBG HBK HOw3
            go_region_law (first
              | (refine step_call_fun rfl 48 _ _ rfl (by kernel_rfl) #[.slice (some ⟨bb, oo, none⟩) n c, .int .i64 (i : Int), .int .i64 ((i : Int) + 1)] (by simp [Act.eval, Act.put]) ((HD.out (w3.alloc (.cells #[.int .i64 qi, .int .i64 qo, .int .i64 price, .int .i64 amount, .int .i64 nx, .bool qb] 33)).drew (hBX.out _)).mono ?_); rintro e w5 ⟨rfl, hO5', hOn5⟩; have hO5 := Lib.hid hO5'; have hF5 := Lib.hid (HF.out _ w5 (hBX.out _) hOn5); have hS5 := Lib.hid (HSa.out w5 hOn5); clear hO5' hOn5; refine ⟨_, rfl, ?_⟩)
              | (refine step_call_fun rfl 48 _ _ rfl (by kernel_rfl) #[.slice (some ⟨bb, oo, none⟩) n c, .int .i64 (i : Int), .int .i64 ((i : Int) + 1)] (by simp [Act.eval, Act.put]) ((HD.out w3.drew (Below.refl _ _).drew).mono ?_); rintro e w5 ⟨rfl, hO5', hOn5⟩; have hO5 := Lib.hid hO5'; have hF5 := Lib.hid (HF.out _ w5 (Below.refl _ _).drew hOn5); obtain ⟨z0, z1, z2, z3, z4, z5⟩ : w5.cell? ⟨k, 0, none⟩ = some (.int .i64 qi) ∧ w5.cell? ⟨k, 1, none⟩ = some (.int .i64 qo) ∧ w5.cell? ⟨k, 2, none⟩ = some (.int .i64 price) ∧ w5.cell? ⟨k, 3, none⟩ = some (.int .i64 amount) ∧ w5.cell? ⟨k, 4, none⟩ = some (.int .i64 nx) ∧ w5.cell? ⟨k, 5, none⟩ = some (.bool qb) := ⟨hF5.out.2.1.cell 0, hF5.out.2.1.cell 1, hF5.out.2.1.cell 2, hF5.out.2.1.cell 3, hF5.out.2.1.cell 4, hF5.out.2.1.cell 5⟩; clear hO5' hOn5; refine ⟨_, rfl, ?_⟩)
              | (refine step_append_own rfl (.tmp 85) (.tmp 87) 22 22 rfl 33 j1 (.agg #[.int .i64 0, .int .i64 0, .int .i64 0, .int .i64 0, .int .i64 0, .bool false]) 48 Try.underlying22 HI1.out HY0.out HY1.out HY2.out rfl (by decide) rfl hO5.out _ 1 (ocell ⟨qi, qo, price, amount, nx, qb⟩) rfl hS5.out hA1.out hA2.out ?_; intro A4 c4 w4 b4 hown hgr hbb; have hT := Lib.hid (HT2.out A4 c4 _ w4 b4 hF5.out.1 hF5.out.2.2 hown hgr hbb); have z0 := hT.out.1.cell 0; simp at z0; have z1 := hT.out.1.frozen 0; clear hown hgr hbb)
              | (refine step_append_own rfl (.tmp 85) (.tmp 87) 22 22 rfl 33 j1 (.agg #[.int .i64 0, .int .i64 0, .int .i64 0, .int .i64 0, .int .i64 0, .bool false]) 48 Try.underlying22 HI1.out HY0.out HY1.out HY2.out rfl (by decide) rfl (hO5.out.below ((Below.refl _ _).alloc (Nat.le_refl _) _)) _ 1 (ocell ⟨qi, qo, price, amount, nx, qb⟩) rfl (HSb.out w5) hA1.out hA2.out ?_; intro A4 c4 w4 b4 hown hgr hbb; have hT := Lib.hid (HT2.out A4 c4 _ w4 b4 (hF5.out.1.alloc _) (hF5.out.2.2.then_below ((Below.refl _ _).alloc (Nat.le_refl _) _)) hown hgr hbb); have z0 := hT.out.1.cell 0; simp at z0; have z1 := hT.out.1.frozen 0; clear hown hgr hbb))
            all_goals
              go_wp2
              refine bodyPost_ret (by simp [results, Try.results27, asAddr, go_sem]; rfl) rfl ?_
              exact ⟨rfl, hT.out.2⟩
    · have hpB : (price == qp) = false := by simpa using hpq
      cases r with
      | false =>
        have hE3 := Lib.hid hE
        rw [if_pos (by simp)] at hE3
        rw [hE3.out]
        clear hE hpq
        go_enter Try.func27, Try.ntmps27
        go_upto_region 4 with (go_at_call 46; (with_reducible refine HMi.out.mono ?_); rintro e w1 ⟨rfl, hh⟩; have hb1 := Lib.hid hh; clear hh)
        have BG := Lib.hid (HB.out.below hb1.out HB.out.lt)
        have x0 := BG.out.cell 0
        simp at x0
        obtain ⟨c0, c1', c2, c3, c4, c5⟩ := HC.out w1 hb1.out
        go_upto_region 5 with (fail)
        have hbx : Hid (Below w1.heap.size w1 (w1.alloc (.cells #[.int .i64 qi, .int .i64 qo, .int .i64 qp, .int .i64 qa, .int .i64 qpl, .bool qb] 33))) := Lib.hid ((Below.refl _ _).alloc (Nat.le_refl _) _)
        have BX := Lib.hid (Blk.new w1 33 #[.int .i64 qi, .int .i64 qo, .int .i64 qp, .int .i64 qa, .int .i64 qpl, .bool qb])
        obtain ⟨k, hk⟩ : ∃ k, Hid (w1.heap.size = k) := ⟨_, Lib.hid rfl⟩
        rw [hk.out] at BX ⊢
        clear c0 c1' c2 c3 c4 c5 x0
        generalize World.alloc w1 _ = wx at hbx BX ⊢
        obtain ⟨c2, c3⟩ : wx.cell? ⟨k, 2, none⟩ = some (.int .i64 qp) ∧ wx.cell? ⟨k, 3, none⟩ = some (.int .i64 qa) := ⟨BX.out.cell 2, BX.out.cell 3⟩
        obtain ⟨f2, f3⟩ : wx.frozen? ⟨k, 2, none⟩ = false ∧ wx.frozen? ⟨k, 3, none⟩ = false := ⟨BX.out.frozen 2, BX.out.frozen 3⟩
        go_upto_region 7 with (fail)
        obtain ⟨wy, hwy⟩ : ∃ wy, (wx.setCell ⟨k, 2, none⟩ (.int .i64 price)).setCell ⟨k, 3, none⟩ (.int .i64 amount) = wy := ⟨_, rfl⟩
        have BY : Hid (Blk wy k 33 #[.int .i64 qi, .int .i64 qo, .int .i64 price, .int .i64 amount, .int .i64 qpl, .bool qb]) := Lib.hid (by rw [← hwy]; exact blk_price BX.out _ _)
        have hby : Hid (Below w.heap.size w wy) := Lib.hid (by
          rw [← hwy]
          have hkk : w.heap.size ≤ k := by rw [← hk.out]; exact hb1.out.size
          exact ((below_next hb1.out hbx.out).setCell (p := ⟨k, _, none⟩) hkk _).setCell (p := ⟨k, _, none⟩) hkk _)
        rw [hwy]
        clear hwy c2 c3 f2 f3
        obtain ⟨d0, d1, d2, d3, d4, d5⟩ : wy.cell? ⟨k, 0, none⟩ = some (.int .i64 qi) ∧ wy.cell? ⟨k, 1, none⟩ = some (.int .i64 qo) ∧ wy.cell? ⟨k, 2, none⟩ = some (.int .i64 price) ∧ wy.cell? ⟨k, 3, none⟩ = some (.int .i64 amount) ∧ wy.cell? ⟨k, 4, none⟩ = some (.int .i64 qpl) ∧ wy.cell? ⟨k, 5, none⟩ = some (.bool qb) := ⟨BY.out.cell 0, BY.out.cell 1, BY.out.cell 2, BY.out.cell 3, BY.out.cell 4, BY.out.cell 5⟩
        go_upto_region 9 with (go_at_call 47; (with_reducible refine (HR.out _).mono ?_); rintro e w2 ⟨rfl, hh⟩; have hb2 := Lib.hid hh; clear hh)
        clear d0 d1 d2 d3 d4 d5
        have hbw := Lib.hid (below_next hby.out hb2.out)
        have B2 := Lib.hid (BY.out.below hb2.out BY.out.lt)
        have BG2 := Lib.hid (HB.out.below hbw.out HB.out.lt)
        go_wp2
        refine bodyPost_ret (by simp [results, Try.results27, asAddr, go_sem]; rfl) rfl ?_
        exact ⟨rfl, Turns.same H.out hbw.out⟩
      | true =>
        rw [if_neg (by simp), if_neg (fun hh => hpq hh.1)] at hE
        clear hpq
        by_cases hfull : 9007199254740992 ≤ nx
        · have hE3 := Lib.hid hE
          rw [if_pos hfull] at hE3
          rw [hE3.out]
          clear hE
          go_enter Try.func27, Try.ntmps27
          go_upto_region 4 with (go_at_call 46; (with_reducible refine HMi.out.mono ?_); rintro e w1 ⟨rfl, hh⟩; have hb1 := Lib.hid hh; clear hh)
          have BG := Lib.hid (HB.out.below hb1.out HB.out.lt)
          have x0 := BG.out.cell 0
          simp at x0
          obtain ⟨c0, c1', c2, c3, c4, c5⟩ := HC.out w1 hb1.out
          go_upto_region 5 with (fail)
          have hbx : Hid (Below w1.heap.size w1 (w1.alloc (.cells #[.int .i64 qi, .int .i64 qo, .int .i64 qp, .int .i64 qa, .int .i64 qpl, .bool qb] 33))) := Lib.hid ((Below.refl _ _).alloc (Nat.le_refl _) _)
          have BX := Lib.hid (Blk.new w1 33 #[.int .i64 qi, .int .i64 qo, .int .i64 qp, .int .i64 qa, .int .i64 qpl, .bool qb])
          obtain ⟨k, hk⟩ : ∃ k, Hid (w1.heap.size = k) := ⟨_, Lib.hid rfl⟩
          rw [hk.out] at BX ⊢
          clear c0 c1' c2 c3 c4 c5 x0
          generalize World.alloc w1 _ = wx at hbx BX ⊢
          obtain ⟨c2, c3⟩ : wx.cell? ⟨k, 2, none⟩ = some (.int .i64 qp) ∧ wx.cell? ⟨k, 3, none⟩ = some (.int .i64 qa) := ⟨BX.out.cell 2, BX.out.cell 3⟩
          obtain ⟨f2, f3⟩ : wx.frozen? ⟨k, 2, none⟩ = false ∧ wx.frozen? ⟨k, 3, none⟩ = false := ⟨BX.out.frozen 2, BX.out.frozen 3⟩
          go_upto_region 7 with (fail)
          obtain ⟨wy, hwy⟩ : ∃ wy, (wx.setCell ⟨k, 2, none⟩ (.int .i64 price)).setCell ⟨k, 3, none⟩ (.int .i64 amount) = wy := ⟨_, rfl⟩
          have BY : Hid (Blk wy k 33 #[.int .i64 qi, .int .i64 qo, .int .i64 price, .int .i64 amount, .int .i64 qpl, .bool qb]) := Lib.hid (by rw [← hwy]; exact blk_price BX.out _ _)
          have hby : Hid (Below w.heap.size w wy) := Lib.hid (by
            rw [← hwy]
            have hkk : w.heap.size ≤ k := by rw [← hk.out]; exact hb1.out.size
            exact ((below_next hb1.out hbx.out).setCell (p := ⟨k, _, none⟩) hkk _).setCell (p := ⟨k, _, none⟩) hkk _)
          rw [hwy]
          clear hwy c2 c3 f2 f3
          obtain ⟨d0, d1, d2, d3, d4, d5⟩ : wy.cell? ⟨k, 0, none⟩ = some (.int .i64 qi) ∧ wy.cell? ⟨k, 1, none⟩ = some (.int .i64 qo) ∧ wy.cell? ⟨k, 2, none⟩ = some (.int .i64 price) ∧ wy.cell? ⟨k, 3, none⟩ = some (.int .i64 amount) ∧ wy.cell? ⟨k, 4, none⟩ = some (.int .i64 qpl) ∧ wy.cell? ⟨k, 5, none⟩ = some (.bool qb) := ⟨BY.out.cell 0, BY.out.cell 1, BY.out.cell 2, BY.out.cell 3, BY.out.cell 4, BY.out.cell 5⟩
          go_upto_region 9 with (go_at_call 47; (with_reducible refine (HR.out _).mono ?_); rintro e w2 ⟨rfl, hh⟩; have hb2 := Lib.hid hh; clear hh)
          clear d0 d1 d2 d3 d4 d5
          have hbw := Lib.hid (below_next hby.out hb2.out)
          have B2 := Lib.hid (BY.out.below hb2.out BY.out.lt)
          have BG2 := Lib.hid (HB.out.below hbw.out HB.out.lt)
          have x1 := BG2.out.cell 1
          simp at x1
          go_wp2
          refine bodyPost_ret (by simp [results, Try.results27, asAddr, go_sem]; rfl) rfl ?_
          exact ⟨rfl, Turns.same H.out hbw.out⟩
        · have hE3 := Lib.hid hE
          rw [if_neg hfull] at hE3
          rw [hE3.out] at hok ⊢
          clear hE
          have qn : IntKind.i64.wrap (nx + 1) = nx + 1 := by rw [IntKind.wrap_i64]; omega
          have qi1 : IntKind.i64.wrap ((i : Int) + 1) = (i : Int) + 1 := by rw [IntKind.wrap_i64]; omega
          obtain ⟨j1, hj1, hy0, hy1, hy2⟩ := info_parts info_order
          have HI1 := Lib.hid hj1
          have HY0 := Lib.hid hy0
          have HY1 := Lib.hid hy1
          have HY2 := Lib.hid hy2
          have hel : Hid ((b.l.eraseIdx i).length = n - 1) := Lib.hid (by rw [List.length_eraseIdx_of_lt hL.out, hn.out])
          have hA1 : Hid (n - 1 + 1 ≤ maxLen) := Lib.hid (by unfold maxLen; omega)
          have hA2 : Hid ((n - 1 + 1) * 48 ≤ 140737488355328) := Lib.hid (by omega)
          clear hj1 hy0 hy1 hy2
          go_enter Try.func27, Try.ntmps27
          go_upto_region 4 with (go_at_call 46; (with_reducible refine HMi.out.mono ?_); rintro e w1 ⟨rfl, hh⟩; have hb1 := Lib.hid hh; clear hh)
          have BG := Lib.hid (HB.out.below hb1.out HB.out.lt)
          have x0 := BG.out.cell 0
          simp at x0
          obtain ⟨c0, c1', c2, c3, c4, c5⟩ := HC.out w1 hb1.out
          go_upto_region 5 with (fail)
          have hbx : Hid (Below w1.heap.size w1 (w1.alloc (.cells #[.int .i64 qi, .int .i64 qo, .int .i64 qp, .int .i64 qa, .int .i64 qpl, .bool qb] 33))) := Lib.hid ((Below.refl _ _).alloc (Nat.le_refl _) _)
          have BX := Lib.hid (Blk.new w1 33 #[.int .i64 qi, .int .i64 qo, .int .i64 qp, .int .i64 qa, .int .i64 qpl, .bool qb])
          obtain ⟨k, hk⟩ : ∃ k, Hid (w1.heap.size = k) := ⟨_, Lib.hid rfl⟩
          rw [hk.out] at BX ⊢
          clear c0 c1' c2 c3 c4 c5 x0
          generalize World.alloc w1 _ = wx at hbx BX ⊢
          obtain ⟨c2, c3⟩ : wx.cell? ⟨k, 2, none⟩ = some (.int .i64 qp) ∧ wx.cell? ⟨k, 3, none⟩ = some (.int .i64 qa) := ⟨BX.out.cell 2, BX.out.cell 3⟩
          obtain ⟨f2, f3⟩ : wx.frozen? ⟨k, 2, none⟩ = false ∧ wx.frozen? ⟨k, 3, none⟩ = false := ⟨BX.out.frozen 2, BX.out.frozen 3⟩
          go_upto_region 7 with (fail)
          obtain ⟨wy, hwy⟩ : ∃ wy, (wx.setCell ⟨k, 2, none⟩ (.int .i64 price)).setCell ⟨k, 3, none⟩ (.int .i64 amount) = wy := ⟨_, rfl⟩
          have BY : Hid (Blk wy k 33 #[.int .i64 qi, .int .i64 qo, .int .i64 price, .int .i64 amount, .int .i64 qpl, .bool qb]) := Lib.hid (by rw [← hwy]; exact blk_price BX.out _ _)
          have hby : Hid (Below w.heap.size w wy) := Lib.hid (by
            rw [← hwy]
            have hkk : w.heap.size ≤ k := by rw [← hk.out]; exact hb1.out.size
            exact ((below_next hb1.out hbx.out).setCell (p := ⟨k, _, none⟩) hkk _).setCell (p := ⟨k, _, none⟩) hkk _)
          rw [hwy]
          clear hwy c2 c3 f2 f3
          obtain ⟨d0, d1, d2, d3, d4, d5⟩ : wy.cell? ⟨k, 0, none⟩ = some (.int .i64 qi) ∧ wy.cell? ⟨k, 1, none⟩ = some (.int .i64 qo) ∧ wy.cell? ⟨k, 2, none⟩ = some (.int .i64 price) ∧ wy.cell? ⟨k, 3, none⟩ = some (.int .i64 amount) ∧ wy.cell? ⟨k, 4, none⟩ = some (.int .i64 qpl) ∧ wy.cell? ⟨k, 5, none⟩ = some (.bool qb) := ⟨BY.out.cell 0, BY.out.cell 1, BY.out.cell 2, BY.out.cell 3, BY.out.cell 4, BY.out.cell 5⟩
          go_upto_region 9 with (go_at_call 47; (with_reducible refine (HR.out _).mono ?_); rintro e w2 ⟨rfl, hh⟩; have hb2 := Lib.hid hh; clear hh)
          clear d0 d1 d2 d3 d4 d5
          have hbw := Lib.hid (below_next hby.out hb2.out)
          have B2 := Lib.hid (BY.out.below hb2.out BY.out.lt)
          have BG2 := Lib.hid (HB.out.below hbw.out HB.out.lt)
          have hgk : Hid (g ≠ k ∧ gl ≠ some k ∧ gl ≠ some g ∧ w.heap.size ≤ k) := Lib.hid (by
            have hkk : w.heap.size ≤ k := by rw [← hk.out]; exact hb1.out.size
            refine ⟨by have := H.out.lt; omega, fun e => ?_, H.out.apart, hkk⟩
            have := HO.out.lt e
            omega)
          have x0 := BG2.out.cell 0
          have x1 := BG2.out.cell 1
          simp at x0 x1
          have x2 := BG2.out.frozen 1
          have y0 := B2.out.cell 4
          simp at y0
          have y1 := B2.out.frozen 4
          have hgk1 : g ≠ k := hgk.out.1
          have hgk2 : k ≠ g := fun e => hgk1 e.symm
          go_upto_region 16 with (fail)
          obtain ⟨w3, hw3⟩ : ∃ w3, (w2.setCell ⟨k, 4, none⟩ (.int .i64 nx)).setCell ⟨g, 1, none⟩ (.int .i64 (nx + 1)) = w3 := ⟨_, rfl⟩
          have HBK : Hid (Blk w3 k 33 #[.int .i64 qi, .int .i64 qo, .int .i64 price, .int .i64 amount, .int .i64 nx, .bool qb]) := Lib.hid (by rw [← hw3]; exact (blk_place B2.out _).far hgk2 _)
          have HBG : Hid (Blk w3 g 76 #[.slice (some ⟨bb, oo, none⟩) n c, .int .i64 (nx + 1)]) := Lib.hid (by rw [← hw3]; exact (blk_two (BG2.out.far hgk1 _) _).2)
          have HOw3 : Hid (Own w3 6 (.slice (some ⟨bb, oo, none⟩) n c) gl n (ocells b.l)) := Lib.hid (by rw [← hw3]; exact ((HO.out.below hbw.out).far hgk.out.2.1 _ _).far hgk.out.2.2.1 _ _)
          have HOn : Hid (Only (fun x => x = g ∨ some x = gl) w w3) := Lib.hid (by rw [← hw3]; exact ((Only.of_below hbw.out).setCell (.inr hgk.out.2.2.2) _).setCell (.inl (.inl rfl)) _)
          rw [hw3]
          clear hw3 x0 x1 x2 y0 y1 BG2 B2
          have hBX : Hid (∀ o, Below w3.heap.size w3 (w3.alloc o).drew) := Lib.hid fun o => ((Below.refl _ _).alloc (Nat.le_refl _) o).drew
          have HD : Hid (∀ wx, Below w3.heap.size w3 wx → Calls Try.prog 48 #[.slice (some ⟨bb, oo, none⟩) n c, .int .i64 (i : Int), .int .i64 ((i : Int) + 1)] wx fun e w' => e = .returned (.slice (some ⟨bb, oo, none⟩) (n - 1) c) ∧ Own w' 6 (.slice (some ⟨bb, oo, none⟩) (n - 1) c) gl (n - 1) (ocells (b.l.eraseIdx i)) ∧ Only (fun k => some k = gl) wx w') := Lib.hid fun wx hb => by
            have := delone_calls wx (some ⟨bb, oo, none⟩) b.l c gl (by rw [hn.out]; exact HOw3.out.below hb) (by rw [hn.out]; exact hfew) i hL.out
            rwa [hn.out] at this
          have HF : Hid (∀ wx w5, Below w3.heap.size w3 wx → Only (fun k => some k = gl) wx w5 → Blk w5 g 76 #[.slice (some ⟨bb, oo, none⟩) n c, .int .i64 (nx + 1)] ∧ Blk w5 k 33 #[.int .i64 qi, .int .i64 qo, .int .i64 price, .int .i64 amount, .int .i64 nx, .bool qb] ∧ Only (fun x => x = g ∨ some x = gl) w w5) := Lib.hid fun wx w5 hb ho => ⟨keep_box (HBG.out.below hb HBG.out.lt) ho hgk.out.2.2.1, keep_box (HBK.out.below hb HBK.out.lt) ho hgk.out.2.1, (HOn.out.then_below hb).trans ho fun x hx => .inl (.inr hx)⟩
          have hglw : Hid (∀ kk, gl = some kk → kk < w3.heap.size) := Lib.hid fun kk e => HOw3.out.lt e
          have HSa : Hid (∀ w5, Only (fun k => some k = gl) (w3.alloc (.cells #[.int .i64 qi, .int .i64 qo, .int .i64 price, .int .i64 amount, .int .i64 nx, .bool qb] 33)).drew w5 → Src Try.prog 6 22 (.slice (some ⟨w3.heap.size, 0, none⟩) 1 1) 1 (ocell ⟨qi, qo, price, amount, nx, qb⟩) w5) := Lib.hid fun w5 ho => by
            have hb5 : Blk w5 w3.heap.size 33 (ocell ⟨qi, qo, price, amount, nx, qb⟩).toArray := keep_box (Blk.new w3 33 (ocell ⟨qi, qo, price, amount, nx, qb⟩).toArray).drew ho (fun e => Nat.lt_irrefl _ (hglw.out _ e))
            refine Src.ofSlice _ Try.underlying22 ⟨w3.heap.size, 0, none⟩ 1 1 (ocell ⟨qi, qo, price, amount, nx, qb⟩) rfl (fun j u hu => ?_) (by simp [ocell, Value.oneCell'])
            rw [show (⟨w3.heap.size, 0, none⟩ : Addr).add j = ⟨w3.heap.size, j, none⟩ from by simp [Addr.add_lit], hb5.cell j, ← hu]
            simp
          have HSb : Hid (∀ wx : World, Src Try.prog 6 22 (.slice (some ⟨wx.heap.size, 0, none⟩) 1 1) 1 (ocell ⟨qi, qo, price, amount, nx, qb⟩) (wx.alloc (.cells (ocell ⟨qi, qo, price, amount, nx, qb⟩).toArray 33))) := Lib.hid fun wx => src_new Try.underlying22 wx _ _ 1 1 rfl (by simp [ocell, Value.oneCell'])
          obtain ⟨x0, y0, y1, y2, y3, y4, y5⟩ : w3.cell? ⟨g, 0, none⟩ = some (.slice (some ⟨bb, oo, none⟩) n c) ∧ w3.cell? ⟨k, 0, none⟩ = some (.int .i64 qi) ∧ w3.cell? ⟨k, 1, none⟩ = some (.int .i64 qo) ∧ w3.cell? ⟨k, 2, none⟩ = some (.int .i64 price) ∧ w3.cell? ⟨k, 3, none⟩ = some (.int .i64 amount) ∧ w3.cell? ⟨k, 4, none⟩ = some (.int .i64 nx) ∧ w3.cell? ⟨k, 5, none⟩ = some (.bool qb) := ⟨HBG.out.cell 0, HBK.out.cell 0, HBK.out.cell 1, HBK.out.cell 2, HBK.out.cell 3, HBK.out.cell 4, HBK.out.cell 5⟩
          have xs1 : (w3.alloc (.cells #[.int .i64 qi, .int .i64 qo, .int .i64 price, .int .i64 amount, .int .i64 nx, .bool qb] 33)).cell? ⟨g, 0, none⟩ = some (.slice (some ⟨bb, oo, none⟩) n c) := (HBG.out.below ((Below.refl _ _).alloc (Nat.le_refl _) _) HBG.out.lt).cell 0
          have HT2 := Lib.hid (fun (A4 : Option Addr) (c4 : Nat) (wa w4 : World) (b4 : Option Nat) (hga : Blk wa g 76 #[.slice (some ⟨bb, oo, none⟩) n c, .int .i64 (nx + 1)]) (hon : Only (fun x => x = g ∨ some x = gl) w wa) (hown : Own w4 6 (.slice A4 (n - 1 + 1) c4) b4 (n - 1 + 1) (ocells (b.l.eraseIdx i) ++ ocell ⟨qi, qo, price, amount, nx, qb⟩)) (hgr : wa.grownBy w4 gl) (hbb : b4 = gl ∨ b4 = some wa.heap.size) => turns_append2 hel.out hga hon hown hgr hbb hgk.out.2.2.1 hok.out)
          clear HBG HBK HOw3
          go_region_law (first
            | (refine step_call_fun rfl 48 _ _ rfl (by kernel_rfl) #[.slice (some ⟨bb, oo, none⟩) n c, .int .i64 (i : Int), .int .i64 ((i : Int) + 1)] (by simp [Act.eval, Act.put]) ((HD.out (w3.alloc (.cells #[.int .i64 qi, .int .i64 qo, .int .i64 price, .int .i64 amount, .int .i64 nx, .bool qb] 33)).drew (hBX.out _)).mono ?_); rintro e w5 ⟨rfl, hO5', hOn5⟩; have hO5 := Lib.hid hO5'; have hF5 := Lib.hid (HF.out _ w5 (hBX.out _) hOn5); have hS5 := Lib.hid (HSa.out w5 hOn5); clear hO5' hOn5; refine ⟨_, rfl, ?_⟩)
            | (refine step_call_fun rfl 48 _ _ rfl (by kernel_rfl) #[.slice (some ⟨bb, oo, none⟩) n c, .int .i64 (i : Int), .int .i64 ((i : Int) + 1)] (by simp [Act.eval, Act.put]) ((HD.out w3.drew (Below.refl _ _).drew).mono ?_); rintro e w5 ⟨rfl, hO5', hOn5⟩; have hO5 := Lib.hid hO5'; have hF5 := Lib.hid (HF.out _ w5 (Below.refl _ _).drew hOn5); obtain ⟨z0, z1, z2, z3, z4, z5⟩ : w5.cell? ⟨k, 0, none⟩ = some (.int .i64 qi) ∧ w5.cell? ⟨k, 1, none⟩ = some (.int .i64 qo) ∧ w5.cell? ⟨k, 2, none⟩ = some (.int .i64 price) ∧ w5.cell? ⟨k, 3, none⟩ = some (.int .i64 amount) ∧ w5.cell? ⟨k, 4, none⟩ = some (.int .i64 nx) ∧ w5.cell? ⟨k, 5, none⟩ = some (.bool qb) := ⟨hF5.out.2.1.cell 0, hF5.out.2.1.cell 1, hF5.out.2.1.cell 2, hF5.out.2.1.cell 3, hF5.out.2.1.cell 4, hF5.out.2.1.cell 5⟩; clear hO5' hOn5; refine ⟨_, rfl, ?_⟩)
            | (refine step_append_own rfl (.tmp 85) (.tmp 87) 22 22 rfl 33 j1 (.agg #[.int .i64 0, .int .i64 0, .int .i64 0, .int .i64 0, .int .i64 0, .bool false]) 48 Try.underlying22 HI1.out HY0.out HY1.out HY2.out rfl (by decide) rfl hO5.out _ 1 (ocell ⟨qi, qo, price, amount, nx, qb⟩) rfl hS5.out hA1.out hA2.out ?_; intro A4 c4 w4 b4 hown hgr hbb; have hT := Lib.hid (HT2.out A4 c4 _ w4 b4 hF5.out.1 hF5.out.2.2 hown hgr hbb); have z0 := hT.out.1.cell 0; simp at z0; have z1 := hT.out.1.frozen 0; clear hown hgr hbb)
            | (refine step_append_own rfl (.tmp 85) (.tmp 87) 22 22 rfl 33 j1 (.agg #[.int .i64 0, .int .i64 0, .int .i64 0, .int .i64 0, .int .i64 0, .bool false]) 48 Try.underlying22 HI1.out HY0.out HY1.out HY2.out rfl (by decide) rfl (hO5.out.below ((Below.refl _ _).alloc (Nat.le_refl _) _)) _ 1 (ocell ⟨qi, qo, price, amount, nx, qb⟩) rfl (HSb.out w5) hA1.out hA2.out ?_; intro A4 c4 w4 b4 hown hgr hbb; have hT := Lib.hid (HT2.out A4 c4 _ w4 b4 (hF5.out.1.alloc _) (hF5.out.2.2.then_below ((Below.refl _ _).alloc (Nat.le_refl _) _)) hown hgr hbb); have z0 := hT.out.1.cell 0; simp at z0; have z1 := hT.out.1.frozen 0; clear hown hgr hbb))
          all_goals
            go_wp2
            refine bodyPost_ret (by simp [results, Try.results27, asAddr, go_sem]; rfl) rfl ?_
            exact ⟨rfl, hT.out.2⟩
  · have hE : Hid (b.amend id owner price amount = (b, (b.mine id owner).2)) := Lib.hid (by unfold Bk.amend; rw [if_pos hz])
    rw [hE.out]
    generalize (b.mine id owner).1 = m1 at HMi
    generalize (b.mine id owner).2 = m2 at HMi hz ⊢
    have hB : (m2 != 0) = true := by simpa using hz
    clear h hz
    go_enter Try.func27, Try.ntmps27
    go_wp2_with (go_at_call 46; (with_reducible refine HMi.out.mono ?_); rintro e w1 ⟨rfl, hh⟩; have hb1 := Lib.hid hh; clear hh)
    refine bodyPost_ret (by simp [results, Try.results27, asAddr, go_sem]; rfl) rfl ?_
    exact ⟨rfl, Turns.same H.out hb1.out⟩
end Go.Proofs.Ytilbhnloelgpdaa
namespace Go.Proofs.Ytilbhnloelgpdaa
open Go.RowKit
set_option linter.unusedVariables false
set_option linter.unusedSimpArgs false
section
variable {w0 w w' : World} {g : Nat} {b b' : Bk}
theorem Bw.amend (h : Bw w0 w g b) (id owner price amount : Int) : Calls Try.prog 27 #[.pointer (some ⟨g, 0, none⟩), .int .i64 id, .int .i64 owner, .int .i64 price, .int .i64 amount] w fun e w' => e = .returned (.int .i64 (b.amend id owner price amount).2) ∧ Bw w0 w' g (b.amend id owner price amount).1 := by
  obtain ⟨gl, h1, h2, h3, h4⟩ := h
  exact (amend_calls w g gl b h1 id owner price amount).mono fun _ _ ⟨e, ht⟩ => ⟨e, Bw.turn h1 h2 h3 h4 ht⟩
theorem Bw.cancel (h : Bw w0 w g b) (id owner : Int) : Calls Try.prog 33 #[.pointer (some ⟨g, 0, none⟩), .int .i64 id, .int .i64 owner] w fun e w' => e = .returned (.int .i64 (b.cancel id owner).2) ∧ Bw w0 w' g (b.cancel id owner).1 := by
  obtain ⟨gl, h1, h2, h3, h4⟩ := h
  exact (cancel_calls w g gl b h1 id owner).mono fun _ _ ⟨e, ht⟩ => ⟨e, Bw.turn h1 h2 h3 h4 ht⟩
end
def arnd (n : Int) (below : Nat) : Nat := (n.tmod below).natAbs
theorem arnd_lt (n : Int) {below : Nat} (h : 0 < below) : arnd n below < below := by
  unfold arnd
  have h1 := Int.lt_tmod_of_pos n (b := (below : Int)) (by omega)
  have h2 := Int.tmod_lt_of_pos n (b := (below : Int)) (by omega)
  omega
set_option maxHeartbeats 2000000 in
theorem around_calls (n : Int) (b : Nat) (hb : 0 < b) (hb2 : b ≤ 1000000) (w : World) :
    Calls Try.prog 41 #[.int .i64 n, .int .i64 (b : Int)] w fun e w' => e = .returned (.int .i64 (arnd n b : Int)) ∧ w = w' := by
  have h1 := Int.lt_tmod_of_pos n (b := (b : Int)) (by omega)
  have h2 := Int.tmod_lt_of_pos n (b := (b : Int)) (by omega)
  obtain ⟨q, hq⟩ : ∃ q, n.tmod (b : Int) = q := ⟨_, rfl⟩
  have E : Hid (((arnd n b : Nat) : Int) = if q < 0 then 0 - q else q) := Lib.hid (by unfold arnd; rw [hq]; split <;> omega)
  rw [hq] at h1 h2
  have hb3 : (0 : Int) < (b : Int) := by omega
  have hb4 : ¬ (b : Int) = 0 := by omega
  have hb5 : ¬ b = 0 := by omega
  by_cases h : q < 0
  · have e2 := E.out
    rw [if_pos h] at e2
    have E2 := Lib.hid e2
    have hw : IntKind.i64.wrap (0 - q) = 0 - q := by rw [IntKind.wrap_i64]; omega
    clear e2 E
    go_enter Try.func41, Try.ntmps41
    go_wp2
    refine bodyPost_ret (by simp [results, Try.results41, asAddr, go_sem]; rfl) rfl ?_
    exact ⟨by rw [E2.out]; simp, rfl⟩
  · have e2 := E.out
    rw [if_neg h] at e2
    have E2 := Lib.hid e2
    have h0 : 0 ≤ q := by omega
    clear e2 E
    go_enter Try.func41, Try.ntmps41
    go_wp2
    refine bodyPost_ret (by simp [results, Try.results41, asAddr, go_sem]; rfl) rfl ?_
    exact ⟨by (first | (rw [E2.out]; done) | (rw [E2.out]; rfl)), rfl⟩
theorem around5 (n : Int) (w : World) : Calls Try.prog 41 #[.int .i64 n, .int .i64 5] w fun e w' => e = .returned (.int .i64 (arnd n 5 : Int)) ∧ w = w' := around_calls n 5 (by omega) (by omega) w
end Go.Proofs.Ytilbhnloelgpdaa
namespace Go.Proofs.Ytilbhnloelgpdaa
open Go.RowKit
set_option linter.unusedVariables false
set_option linter.unusedSimpArgs false
structure SAct where
  kind : Int
  o : Ord
def sact0 : SAct := ⟨0, ord0⟩
def scell (a : SAct) : List Value := .int .i64 a.kind :: ocell a.o
def scells (L : List SAct) : List Value := L.flatMap scell
theorem scell_length (a : SAct) : (scell a).length = 7 := rfl
theorem scells_length (L : List SAct) : (scells L).length = L.length * 7 := by
  induction L with
  | nil => rfl
  | cons o l ih => unfold scells at *; rw [List.flatMap_cons, List.length_append, ih, List.length_cons, scell_length]; omega
theorem scells_get (L : List SAct) {i j : Nat} (hi : i < L.length) (hj : j < 7) : (scells L).getD (i * 7 + j) (.bool false) = (scell (L.getD i sact0)).getD j (.bool false) := by
  induction L generalizing i with
  | nil => simp at hi
  | cons s L ih =>
    have e : scells (s :: L) = scell s ++ scells L := rfl
    rw [e]
    cases i with
    | zero =>
      simp only [List.getD_eq_getElem?_getD, Nat.zero_mul, Nat.zero_add]
      rw [List.getElem?_append_left (by rw [scell_length]; exact hj)]; rfl
    | succ i =>
      have := ih (i := i) (by simpa using hi)
      rw [show (i + 1) * 7 + j = (i * 7 + j) + 7 from by omega]
      simp only [List.getD_eq_getElem?_getD] at *
      rw [List.getElem?_append_right (by rw [scell_length]; omega)]
      simpa [scell, ocell] using this
/-- The script L in w, from A on. -/
def SRow (w : World) (A : Option Addr) (L : List SAct) : Prop := Row w A (L.length * 7) fun j => (scells L).getD j (.bool false)
theorem SRow.below {w w' : World} {A : Option Addr} {L : List SAct} (h : SRow w A L) (hb : Below w.heap.size w w') : SRow w' A L := Row.below h hb
theorem SRow.cells {w : World} {A : Option Addr} {L : List SAct} (h : SRow w A L) {i : Nat} (hi : i < L.length) : ∃ b o, A = some ⟨b, o, none⟩ ∧ ∀ w', Below w.heap.size w w' → ∀ j, j < 7 → w'.cell? ⟨b, o + i * 7 + j, none⟩ = some ((scell (L.getD i sact0)).getD j (.bool false)) := by
  obtain ⟨b, o, e, _⟩ := Row.at_ h (k := i * 7) (by omega)
  refine ⟨b, o, e, fun w' hb j hj => ?_⟩
  obtain ⟨b', o', e', h1, h2⟩ := Row.at_ h (k := i * 7 + j) (by omega)
  rw [e] at e'; cases e'
  rw [← scells_get L hi hj, Nat.add_assoc]; exact (below_cell hb h1).trans h2
theorem SRow.seven {w w' : World} {b o : Nat} {L : List SAct} (h : SRow w (some ⟨b, o, none⟩) L) {i : Nat} (hi : i < L.length) (hb : Below w.heap.size w w') :
    w'.cell? ⟨b, o + i * 7, none⟩ = some (.int .i64 (L.getD i sact0).kind) ∧ w'.cell? ⟨b, o + i * 7 + 1, none⟩ = some (.int .i64 (L.getD i sact0).o.id) ∧ w'.cell? ⟨b, o + i * 7 + 2, none⟩ = some (.int .i64 (L.getD i sact0).o.owner) ∧ w'.cell? ⟨b, o + i * 7 + 3, none⟩ = some (.int .i64 (L.getD i sact0).o.price) ∧
    w'.cell? ⟨b, o + i * 7 + 4, none⟩ = some (.int .i64 (L.getD i sact0).o.amount) ∧ w'.cell? ⟨b, o + i * 7 + 5, none⟩ = some (.int .i64 (L.getD i sact0).o.place) ∧ w'.cell? ⟨b, o + i * 7 + 6, none⟩ = some (.bool (L.getD i sact0).o.buys) := by
  obtain ⟨b', o', e, h1⟩ := SRow.cells h hi
  cases e
  have each := h1 w' hb
  exact ⟨each 0 (by omega), each 1 (by omega), each 2 (by omega), each 3 (by omega), each 4 (by omega), each 5 (by omega), each 6 (by omega)⟩
theorem SRow.take {w : World} {A : Option Addr} {L : List SAct} (h : SRow w A L) (k : Nat) : SRow w A (L.take k) := by
  have hl : (L.take k).length ≤ L.length := by rw [List.length_take]; omega
  have hc : scells L = scells (L.take k) ++ scells (L.drop k) := by unfold scells; rw [← List.flatMap_append, List.take_append_drop]
  rcases h with h | ⟨b, off, h1, h2, h3⟩
  · exact .inl (by omega)
  · refine .inr ⟨b, off, h1, h2, fun j hj => ?_⟩
    have := h3 j (by omega)
    rw [this]
    refine congrArg Option.some ?_
    show (scells L).getD j _ = (scells (L.take k)).getD j _
    rw [List.getD_eq_getElem?_getD, List.getD_eq_getElem?_getD, hc, List.getElem?_append_left (by rw [scells_length]; exact hj)]
section
variable {H : Type} {enc : TypeId × Value → H} {P : Program} {W : World} {base : Nat} {spare : Nat → Bool} {held : Bool}
theorem open_scells {t te ti tx : TypeId} {g0 g1 f0 f1 f2 f3 f4 f5 : Field} (hs : P.underlying t = some (.struct #[g0, g1])) (hc7 : P.cellsOf t = 7) (hg : g0.offset = 0 ∧ g1.offset = 1 ∧ g0.type = ti ∧ g1.type = te)
    (ht : P.underlying te = some (.struct #[f0, f1, f2, f3, f4, f5])) (hc : P.cellsOf te = 6)
    (ho : f0.offset = 0 ∧ f1.offset = 1 ∧ f2.offset = 2 ∧ f3.offset = 3 ∧ f4.offset = 4 ∧ f5.offset = 5) (hf : f0.type = ti ∧ f1.type = ti ∧ f2.type = ti ∧ f3.type = ti ∧ f4.type = ti ∧ f5.type = tx) (hi : P.underlying ti = some (.int .i64)) (hci : P.cellsOf ti = 1) (hx : P.underlying tx = some .bool) (hcx : P.cellsOf tx = 1)
    {fuel : Nat} {cs : List Value} {x : DataW H × List MemPlace} (h : DataW.trod enc P W base spare held fuel t cs = some x) : ∃ a : SAct, cs = scell a := by
  obtain ⟨xs, n, _, rfl, hl, hlen, hfs⟩ := DataW.trod_struct hs h
  obtain ⟨o0, o1, t0, t1⟩ := hg
  match xs, hlen with
  | [y0, y1], _ =>
    have r0 := hfs 0 g0 rfl
    have r1 := hfs 1 g1 rfl
    rw [t0, o0, hci] at r0
    rw [t1, o1, hc] at r1
    obtain ⟨z0, e0, _⟩ := DataW.trod_int hi r0
    obtain ⟨a, e1⟩ := open_cells ht hc ho hf hi hci hx hcx r1
    refine ⟨⟨z0, a⟩, ?_⟩
    rw [hc7] at hl
    have e2 : cs = (cs.drop 0).take 1 ++ (cs.drop 1).take 6 := by
      rw [List.drop_zero, List.take_of_length_le (l := cs.drop 1) (by rw [List.length_drop]; omega), List.take_append_drop]
    rw [e2, e0, e1]; rfl
theorem open_sacts {u t te ti tx : TypeId} {g0 g1 f0 f1 f2 f3 f4 f5 : Field} (hu : P.underlying u = some (.slice t)) (hs : P.underlying t = some (.struct #[g0, g1])) (hc7 : P.cellsOf t = 7) (hg : g0.offset = 0 ∧ g1.offset = 1 ∧ g0.type = ti ∧ g1.type = te)
    (ht : P.underlying te = some (.struct #[f0, f1, f2, f3, f4, f5])) (hc : P.cellsOf te = 6)
    (ho : f0.offset = 0 ∧ f1.offset = 1 ∧ f2.offset = 2 ∧ f3.offset = 3 ∧ f4.offset = 4 ∧ f5.offset = 5) (hf : f0.type = ti ∧ f1.type = ti ∧ f2.type = ti ∧ f3.type = ti ∧ f4.type = ti ∧ f5.type = tx) (hi : P.underlying ti = some (.int .i64)) (hci : P.cellsOf ti = 1) (hx : P.underlying tx = some .bool) (hcx : P.cellsOf tx = 1)
    {a : Option Addr} {len cap : Nat} {d : DataW H} {ps : List MemPlace} (h : DataW.Trod enc P W base spare held u (.slice a len cap) d ps) : ∃ L : List SAct, L.length = len ∧ len ≤ cap ∧ cap ≤ maxLen ∧ SRow W a L := by
  obtain ⟨fuel, hfu⟩ := h
  rcases Deep.open_slice hu hfu with ⟨hcs, _⟩ | ⟨x, l, c, m, n, D, Pl, hcs, _, hl, hm, hmm, _, hxx⟩
  · simp [Value.cells] at hcs
    obtain ⟨rfl, rfl, rfl⟩ := hcs
    exact ⟨[], rfl, Nat.le_refl _, by unfold maxLen; omega, .inl rfl⟩
  · simp [Value.cells] at hcs
    obtain ⟨rfl, rfl, rfl⟩ := hcs
    have hlm : len ≤ m := by rw [hmm]; split <;> omega
    have each : ∀ i, i < len → ∃ z : SAct, ∀ k, k < 7 → W.cell? (x.add (i * 7 + k)) = some ((scell z).getD k (.bool false)) := by
      intro i hi'
      obtain ⟨cs', h1, h2⟩ := hxx i (by omega)
      rw [hc7] at h1
      obtain ⟨z, rfl⟩ := open_scells hs hc7 hg ht hc ho hf hi hci hx hcx h2
      refine ⟨z, fun k hk => ?_⟩
      have hcell := (World.cells?_some h1).2.2 k hk
      have e : (x.add (i * 7)).add k = x.add (i * 7 + k) := by
        unfold Addr.add
        by_cases q : i * 7 = 0
        · simp [q]
        · simp [q]
          by_cases q2 : k = 0
          · simp [q2]
          · simp [q2, Nat.add_assoc]
      rw [e] at hcell
      rw [hcell]
      have hk7 : k < (scell z).length := hk
      rw [List.getD_eq_getElem?_getD, List.getElem?_eq_getElem hk7]; rfl
    refine ⟨List.ofFn fun i : Fin len => Classical.choose (each i i.2), by simp, hl, hm, ?_⟩
    refine Row.of_cells fun j hj => ?_
    rw [List.length_ofFn] at hj
    have hj7 : j / 7 < len := by omega
    have := Classical.choose_spec (each (j / 7) hj7) (j % 7) (by omega)
    rw [show j / 7 * 7 + j % 7 = j from by omega] at this
    rw [this]
    congr 1
    have hgg := scells_get (List.ofFn fun i : Fin len => Classical.choose (each i i.2)) (i := j / 7) (j := j % 7) (by simpa using hj7) (by omega)
    rw [show j / 7 * 7 + j % 7 = j from by omega] at hgg
    rw [hgg]
    congr 1
    rw [List.getD_eq_getElem?_getD, List.getElem?_ofFn, dif_pos hj7]; rfl
end
end Go.Proofs.Ytilbhnloelgpdaa
namespace Go.Proofs.Ytilbhnloelgpdaa
open Go.RowKit
set_option linter.unusedVariables false
set_option linter.unusedSimpArgs false
namespace Bk
/-- A call, by its kind. -/
def act (b : Bk) (a : SAct) : Bk :=
  if arnd a.kind 5 = 2 then (b.amend a.o.id a.o.owner a.o.price a.o.amount).1
  else if arnd a.kind 5 = 3 then (b.cancel a.o.id a.o.owner).1
  else if arnd a.kind 5 = 4 then b.clear.1
  else (b.put a.o).1
def runTo (L : List SAct) (i : Nat) : Bk := (L.take i).foldl act fresh
def run (L : List SAct) : Bk := runTo L 100
theorem runTo_zero (L : List SAct) : runTo L 0 = fresh := by unfold runTo; rw [List.take_zero]; rfl
theorem runTo_next (L : List SAct) {i : Nat} (h : i < L.length) : runTo L (i + 1) = (runTo L i).act (L.getD i sact0) := by
  unfold runTo
  rw [List.take_succ_eq_append_getElem h, List.foldl_append, List.getD_eq_getElem?_getD, List.getElem?_eq_getElem h]; rfl
theorem runTo_all (L : List SAct) {i : Nat} (h : L.length ≤ i) (hi : i ≤ 100) : runTo L i = run L := by
  unfold run runTo
  rw [List.take_of_length_le h, List.take_of_length_le (by omega)]
theorem act_ok {b : Bk} (h : b.Ok) (a : SAct) : (b.act a).Ok := by
  unfold act
  split
  · exact amend_ok h _ _ _ _
  · split
    · exact cancel_ok h _ _
    · split
      · exact clear_ok h
      · exact put_ok h _
theorem run_ok (L : List SAct) : (run L).Ok := by
  have : ∀ (l : List SAct) (b : Bk), b.Ok → (l.foldl act b).Ok := fun l => by
    induction l with
    | nil => intro b h; exact h
    | cons a l ih => intro b h; exact ih _ (act_ok h a)
  exact this _ _ fresh_ok
end Bk
def Begins (w : World) (b : Bk) (e : Ending) (w' : World) : Prop := ∃ g, e = .returned (.pointer (some ⟨g, 0, none⟩)) ∧ Bw w w' g b
set_option maxHeartbeats 8000000 in
set_option maxRecDepth 100000 in
theorem begun_calls (w : World) (A : Option Addr) (L : List SAct) (c : Nat) (h : SRow w A L) (hl : L.length ≤ 9223372036854775807) :
    Calls Try.prog 22 #[.slice A L.length c] w (Begins w (Bk.run L)) := by
  have H := Lib.hid h
  have HNw := Lib.hid (Bw.new w)
  have hz := Lib.hid (Bk.runTo_zero L)
  obtain ⟨n, hn⟩ : ∃ n, Hid (L.length = n) := ⟨_, Lib.hid rfl⟩
  obtain ⟨m, hm⟩ : ∃ m, Hid (m = min n 100) := ⟨_, Lib.hid rfl⟩
  have hE : Hid (Bk.runTo L m = Bk.run L) := Lib.hid (by
    rw [hm.out]
    by_cases hh : n ≤ 100
    · rw [Nat.min_eq_left hh]; exact Bk.runTo_all L (by rw [hn.out]; exact Nat.le_refl _) hh
    · rw [Nat.min_eq_right (by omega)]; rfl)
  rw [hn.out] at hl ⊢
  clear h
  go_enter Try.func22, Try.ntmps22
  go_upto_region 3 with (go_at_call 28; (with_reducible refine HNw.out.mono ?_); rintro e w1 ⟨g, rfl, hh⟩; have HB1 := Lib.hid hh; clear hh)
  go_loopg [4] (m + 1) (fun gk s4 wr => ∃ i : Nat, gk = m + 1 - i ∧ i ≤ m ∧ s4 = .int .i64 (i : Int) ∧ Hid (Bw w wr g (Bk.runTo L i)))
  case atStart => exact ⟨0, rfl, Nat.zero_le _, rfl, by rw [hz.out]; exact HB1⟩
  case round =>
    clear HB1
    obtain ⟨i, rfl, hi, rfl, HB⟩ := hrel
    have i0 : (0 : Int) ≤ (i : Int) := by omega
    by_cases him : i < m
    · have hin : i < n := by have := hm.out; omega
      have hiI : (i : Int) < (n : Int) := by omega
      have hi1 : (i : Int) < 100 := by have := hm.out; omega
      have hiL : Hid (i < L.length) := Lib.hid (by rw [hn.out]; exact hin)
      obtain ⟨b, o, rfl⟩ : ∃ b o, A = some ⟨b, o, none⟩ := by
        obtain ⟨b, o, e, _⟩ := H.out.cells hiL.out
        exact ⟨b, o, e⟩
      obtain ⟨c0, c1, c2, c3, c4, c5, c6⟩ := SRow.seven H.out hiL.out HB.out.all
      have hNx := Lib.hid (Bk.runTo_next L hiL.out)
      generalize Bk.runTo L i = B at HB hNx
      have HM := Lib.hid (show m + 1 - (i + 1) < m + 1 - i by omega)
      generalize L.getD i sact0 = a at c0 c1 c2 c3 c4 c5 c6 hNx
      obtain ⟨k, qi, qo, qp, qa, qpl, qb⟩ := a
      simp only at c0 c1 c2 c3 c4 c5 c6
      go_upto_region 6 with (fail)
      have hbx : Hid (Below wr.heap.size wr (wr.alloc (.cells #[.int .i64 k, .int .i64 qi, .int .i64 qo, .int .i64 qp, .int .i64 qa, .int .i64 qpl, .bool qb] 57))) := Lib.hid ((Below.refl _ _).alloc (Nat.le_refl _) _)
      have BA := Lib.hid (Blk.new wr 57 #[.int .i64 k, .int .i64 qi, .int .i64 qo, .int .i64 qp, .int .i64 qa, .int .i64 qpl, .bool qb])
      obtain ⟨g1, hg1⟩ : ∃ g1, Hid (wr.heap.size = g1) := ⟨_, Lib.hid rfl⟩
      rw [hg1.out] at BA ⊢
      clear c0 c1 c2 c3 c4 c5 c6
      generalize World.alloc wr _ = wx at hbx BA ⊢
      have HBx := Lib.hid (HB.out.below hbx.out)
      have hbw := Lib.hid (below_next HB.out.all hbx.out)
      obtain ⟨c0, c1, c2, c3, c4, c5, c6⟩ : wx.cell? ⟨g1, 0, none⟩ = some (.int .i64 k) ∧ wx.cell? ⟨g1, 1, none⟩ = some (.int .i64 qi) ∧ wx.cell? ⟨g1, 2, none⟩ = some (.int .i64 qo) ∧ wx.cell? ⟨g1, 3, none⟩ = some (.int .i64 qp) ∧ wx.cell? ⟨g1, 4, none⟩ = some (.int .i64 qa) ∧ wx.cell? ⟨g1, 5, none⟩ = some (.int .i64 qpl) ∧ wx.cell? ⟨g1, 6, none⟩ = some (.bool qb) := ⟨BA.out.cell 0, BA.out.cell 1, BA.out.cell 2, BA.out.cell 3, BA.out.cell 4, BA.out.cell 5, BA.out.cell 6⟩
      have HAr := Lib.hid (fun w => around5 k w)
      have hk5' := arnd_lt k (below := 5) (by decide)
      rcases (show arnd k 5 = 0 ∨ arnd k 5 = 1 ∨ arnd k 5 = 2 ∨ arnd k 5 = 3 ∨ arnd k 5 = 4 by omega) with hk5 | hk5 | hk5 | hk5 | hk5 <;> rw [hk5] at HAr <;> clear hk5'
      ·
        have hN := hNx.out
        unfold Bk.act at hN
        rw [if_neg (by rw [hk5]; decide), if_neg (by rw [hk5]; decide), if_neg (by rw [hk5]; decide)] at hN
        have HN := Lib.hid hN
        have HPt := Lib.hid (HBx.out.put ⟨qi, qo, qp, qa, qpl, qb⟩)
        unfold oval at HPt
        simp only at HPt
        clear hN hNx hk5
        go_wp2_with (first
          | (go_at_call 41; (with_reducible refine (HAr.out _).mono ?_); rintro e w2 ⟨rfl, rfl⟩)
          | (go_at_call 32; (with_reducible refine HPt.out.mono ?_); rintro e w3 ⟨rfl, hh⟩; have HB3 := Lib.hid hh; clear hh))
        go_roundg (m + 1 - (i + 1))
        case measure => exact HM.out
        case rel => exact ⟨i + 1, rfl, by omega, by first | rfl | go_num, by rw [HN.out]; exact HB3⟩
      ·
        have hN := hNx.out
        unfold Bk.act at hN
        rw [if_neg (by rw [hk5]; decide), if_neg (by rw [hk5]; decide), if_neg (by rw [hk5]; decide)] at hN
        have HN := Lib.hid hN
        have HPt := Lib.hid (HBx.out.put ⟨qi, qo, qp, qa, qpl, qb⟩)
        unfold oval at HPt
        simp only at HPt
        clear hN hNx hk5
        go_wp2_with (first
          | (go_at_call 41; (with_reducible refine (HAr.out _).mono ?_); rintro e w2 ⟨rfl, rfl⟩)
          | (go_at_call 32; (with_reducible refine HPt.out.mono ?_); rintro e w3 ⟨rfl, hh⟩; have HB3 := Lib.hid hh; clear hh))
        go_roundg (m + 1 - (i + 1))
        case measure => exact HM.out
        case rel => exact ⟨i + 1, rfl, by omega, by first | rfl | go_num, by rw [HN.out]; exact HB3⟩
      · have hN := hNx.out
        unfold Bk.act at hN
        rw [if_pos hk5] at hN
        have HN := Lib.hid hN
        have HPt := Lib.hid (HBx.out.amend qi qo qp qa)
        simp only at HN
        clear hN hNx hk5
        go_wp2_with (first
          | (go_at_call 41; (with_reducible refine (HAr.out _).mono ?_); rintro e w2 ⟨rfl, rfl⟩)
          | (go_at_call 27; (with_reducible refine HPt.out.mono ?_); rintro e w3 ⟨rfl, hh⟩; have HB3 := Lib.hid hh; clear hh))
        go_roundg (m + 1 - (i + 1))
        case measure => exact HM.out
        case rel => exact ⟨i + 1, rfl, by omega, by first | rfl | go_num, by rw [HN.out]; exact HB3⟩
      · have hN := hNx.out
        unfold Bk.act at hN
        rw [if_neg (by rw [hk5]; decide), if_pos hk5] at hN
        have HN := Lib.hid hN
        have HPt := Lib.hid (HBx.out.cancel qi qo)
        simp only at HN
        clear hN hNx hk5
        go_wp2_with (first
          | (go_at_call 41; (with_reducible refine (HAr.out _).mono ?_); rintro e w2 ⟨rfl, rfl⟩)
          | (go_at_call 33; (with_reducible refine HPt.out.mono ?_); rintro e w3 ⟨rfl, hh⟩; have HB3 := Lib.hid hh; clear hh))
        go_roundg (m + 1 - (i + 1))
        case measure => exact HM.out
        case rel => exact ⟨i + 1, rfl, by omega, by first | rfl | go_num, by rw [HN.out]; exact HB3⟩
      · have hN := hNx.out
        unfold Bk.act at hN
        rw [if_neg (by rw [hk5]; decide), if_neg (by rw [hk5]; decide), if_pos hk5] at hN
        have HN := Lib.hid hN
        have HPt := Lib.hid HBx.out.clear
        clear hN hNx hk5
        go_wp2_with (first
          | (go_at_call 41; (with_reducible refine (HAr.out _).mono ?_); rintro e w2 ⟨rfl, rfl⟩)
          | (go_at_call 24; (with_reducible refine HPt.out.mono ?_); rintro e w3 ⟨A3, c3', rfl, _, hh⟩; have HB3 := Lib.hid hh; clear hh))
        go_roundg (m + 1 - (i + 1))
        case measure => exact HM.out
        case rel => exact ⟨i + 1, rfl, by omega, by first | rfl | go_num, by rw [HN.out]; exact HB3⟩
    · have hfin : Hid (Begins w (Bk.run L) (.returned (.pointer (some ⟨g, 0, none⟩))) wr) := Lib.hid (by
        obtain rfl : m = i := by omega
        rw [← hE.out]; exact ⟨g, rfl, HB.out⟩)
      by_cases hin : i < n
      · have hiI : (i : Int) < (n : Int) := by omega
        have hi1 : ¬ (i : Int) < 100 := by have := hm.out; omega
        go_wp2
        refine bodyPost_ret (by simp [results, Try.results22, asAddr, go_sem]; rfl) rfl ?_
        exact hfin.out
      · have hiI : ¬ (i : Int) < (n : Int) := by omega
        go_wp2
        refine bodyPost_ret (by simp [results, Try.results22, asAddr, go_sem]; rfl) rfl ?_
        exact hfin.out
end Go.Proofs.Ytilbhnloelgpdaa
