/- step: a call of both; they do not part. -/
import Derived.Test.YtccmafmeblojpaaLike
import Derived.BigRegion
namespace Go.Proofs.Ytccmafmeblojpaa
open Go.RowKit
set_option linter.unusedVariables false
set_option linter.unusedSimpArgs false
def StepTo (w : World) (g gl : Nat) (A : Option Addr) (XS : List (Option Addr × Nat)) (a r : Auc) (e : Ending) (w' : World) : Prop :=
  ∃ A' XS' c', e = .returned (.tuple #[rval r A' XS'.length c', .bool true]) ∧ XS'.length ≤ c' ∧ (XS'.length : Int) = r.round ∧ AtA w' g gl r ∧ Only (feet2 g gl) w w' ∧ Lasts w w' (RA A XS a) (RA A' XS' r)
theorem next_kinds (a : Auc) : (a.next.2.1 = false ∧ a.next.2.2 = 70) ∨ (a.next.2.1 = true ∧ a.next.2.2 = 0 ∧ a.next.1.state ≠ 0) ∨ (a.next.2.1 = false ∧ a.next.2.2 = 0 ∧ a.next.1.state = 0) := by
  unfold Auc.next
  split
  · exact .inl ⟨rfl, rfl⟩
  split
  · exact .inr (.inl ⟨rfl, rfl, by show ¬ _ = (0 : Int); simp⟩)
  split
  · exact .inr (.inl ⟨rfl, rfl, by show ¬ _ = (0 : Int); simp⟩)
  · rename_i h1 h2 h3
    exact .inr (.inr ⟨rfl, rfl, by simpa using h1⟩)
theorem Lasts.put {w wy w3 wF : World} {P Q : World → Prop} (hl : Lasts wy w3 P Q) (hwy : w.heap.size ≤ wy.heap.size) (hs : w3.heap.size ≤ wF.heap.size) (hk : ∀ b, wy.heap.size ≤ b → b < w3.heap.size → wF.heap[b]? = w3.heap[b]?) : Lasts w wF P Q :=
  fun W' h1 h2 hp => hl W' (Nat.le_trans hs h1) (fun b hb1 hb2 => (h2 b (Nat.le_trans hwy hb1) (Nat.lt_of_lt_of_le hb2 hs)).trans (hk b hb1 hb2)) hp
theorem only_drew {S : Nat → Prop} {w w1 : World} (h : Only S w w1) : Only S w w1.drew := h.drewN 1
theorem AtA.only {w w' : World} {g gl : Nat} {a : Auc} {S : Nat → Prop} (h : AtA w g gl a) (ho : Only S w w') (h1 : ¬ S g) (h2 : ¬ S gl) : AtA w' g gl a :=
  ⟨(ho.block g h.head.lt h1).trans h.head, (ho.block gl h.list.lt h2).trans h.list, h.ne, h.ok⟩
theorem Blk.only {w w' : World} {g : Nat} {t : TypeId} {cs : Array Value} {S : Nat → Prop} (h : Blk w g t cs) (ho : Only S w w') (h1 : ¬ S g) : Blk w' g t cs := (ho.block g h.lt h1).trans h
/-- The end of step: the rows last; the auction stands. -/
theorem step_end {w wy w3 w5 wF : World} {g gl g3 : Nat} {A A' : Option Addr} {XS XS' : List (Option Addr × Nat)} {a r : Auc} {c' n : Nat} {s0 s1 s2 s3 : Int}
    (hg : g < w.heap.size) (hgl : gl < w.heap.size) (h0 : r.supply = s0) (h1 : r.start = s1) (h2 : r.step = s2) (h3 : r.state = s3) (hn : XS'.length = n) (hc : n ≤ c') (hr : (n : Int) = r.round) (hb0 : Below w.heap.size w wy) (hb3 : Below wy.heap.size wy w3) (hl : Lasts wy w3 (RA A XS a) (RA A' XS' r))
    (h5 : AtA w5 g gl r) (hw3 : w3.heap.size ≤ w5.heap.size) (ho5 : ∀ b, b < w3.heap.size → ¬ feet2 g gl b → w5.heap[b]? = w3.heap[b]?) (ho : Only (feet2 g gl) w w5) (hg3 : w.heap.size ≤ g3) (hg3y : g3 < wy.heap.size) (hF : Only (fun b => b = g3) w5 wF) :
    StepTo w g gl A XS a r (.returned (.tuple #[.agg #[.int .i64 s0, .int .i64 s1, .int .i64 s2, .int .i64 s3, .slice A' n c'], .bool true])) wF := by
  subst h0 h1 h2 h3 hn
  refine ⟨A', XS', c', rfl, hc, hr, h5.only hF (by show ¬ g = g3; omega) (by show ¬ gl = g3; omega), ?_, hl.put hb0.size (Nat.le_trans hw3 hF.size) fun b hb1 hb2 => ?_⟩
  · exact ho.trans hF fun k hk => .inr (by rw [hk]; exact hg3)
  · have hwy := hb0.size
    rw [hF.block b (by omega) (by show ¬ b = g3; omega)]
    exact ho5 b hb2 fun hh => by rcases hh with rfl | rfl <;> omega
set_option maxHeartbeats 16000000 in
set_option maxRecDepth 20000 in
theorem step_calls (w : World) (g gl : Nat) (a : Auc) (A : Option Addr) (XS : List (Option Addr × Nat)) (n c : Nat) (hA : AtA w g gl a) (hB : Beside a n) (hn : XS.length = n) (hcn : n ≤ c) (h : RA A XS a w) (k who x : Int) :
    Calls Try.prog 30 #[.pointer (some ⟨g, 0, none⟩), rval a A n c, .agg #[.int .i64 k, .int .i64 who, .int .i64 x]] w (StepTo w g gl A XS a (a.act k who x)) := by
  have HA := Lib.hid hA
  have HgL : Hid (g < w.heap.size ∧ gl < w.heap.size) := Lib.hid ⟨hA.head.lt, hA.list.lt⟩
  have KN := Lib.hid (fun wx (hb : Below w.heap.size w wx) => rnext_calls wx a A XS n c hB hn hcn (h.below hb))
  have KB := Lib.hid (fun wx (hb : Below w.heap.size w wx) => rbid_calls wx a A XS n c hB hn hcn (h.below hb) who x)
  have KPn := Lib.hid (fun wx (hb : Below w.heap.size w wx) => next_calls wx g gl a (hA.below hb))
  have KPb := Lib.hid (fun wx (hb : Below w.heap.size w wx) => bid_calls wx g gl a (hA.below hb) who x)
  have KAr := Lib.hid (fun wx => around3 k wx)
  have E : Hid (a.act k who x = if arnd k 3 = 2 then a.next.1 else (a.bid who x).1) := Lib.hid rfl
  have hkinds := Lib.hid (next_kinds a)
  have hlt := arnd_lt k (below := 3) (by omega)
  have hb0 : Hid (Below w.heap.size w (((w.alloc (.cells #[.int .i64 a.supply, .int .i64 a.start, .int .i64 a.step, .int .i64 a.state, .slice A n c] 56)).alloc (.cells #[.int .i64 k, .int .i64 who, .int .i64 x] 46)).alloc (.cells #[.int .i64 0, .int .i64 0, .int .i64 0, .int .i64 0, .slice none 0 0] 56))) := Lib.hid ((((Below.refl _ _).alloc (Nat.le_refl _) _).alloc (by simp) _).alloc (by simp; omega) _)
  have B0 : Hid (Blk (((w.alloc (.cells #[.int .i64 a.supply, .int .i64 a.start, .int .i64 a.step, .int .i64 a.state, .slice A n c] 56)).alloc (.cells #[.int .i64 k, .int .i64 who, .int .i64 x] 46)).alloc (.cells #[.int .i64 0, .int .i64 0, .int .i64 0, .int .i64 0, .slice none 0 0] 56)) w.heap.size 56 #[.int .i64 a.supply, .int .i64 a.start, .int .i64 a.step, .int .i64 a.state, .slice A n c]) := Lib.hid (((Blk.new w 56 #[.int .i64 a.supply, .int .i64 a.start, .int .i64 a.step, .int .i64 a.state, .slice A n c]).alloc _).alloc _)
  have B1 : Hid (Blk (((w.alloc (.cells #[.int .i64 a.supply, .int .i64 a.start, .int .i64 a.step, .int .i64 a.state, .slice A n c] 56)).alloc (.cells #[.int .i64 k, .int .i64 who, .int .i64 x] 46)).alloc (.cells #[.int .i64 0, .int .i64 0, .int .i64 0, .int .i64 0, .slice none 0 0] 56)) (w.heap.size + 1) 46 #[.int .i64 k, .int .i64 who, .int .i64 x]) := Lib.hid (by have := (Blk.new (w.alloc (.cells #[.int .i64 a.supply, .int .i64 a.start, .int .i64 a.step, .int .i64 a.state, .slice A n c] 56)) 46 #[.int .i64 k, .int .i64 who, .int .i64 x]).alloc (.cells #[.int .i64 0, .int .i64 0, .int .i64 0, .int .i64 0, .slice none 0 0] 56); simpa using this)
  have B2 : Hid (Blk (((w.alloc (.cells #[.int .i64 a.supply, .int .i64 a.start, .int .i64 a.step, .int .i64 a.state, .slice A n c] 56)).alloc (.cells #[.int .i64 k, .int .i64 who, .int .i64 x] 46)).alloc (.cells #[.int .i64 0, .int .i64 0, .int .i64 0, .int .i64 0, .slice none 0 0] 56)) (w.heap.size + 1 + 1) 56 #[.int .i64 0, .int .i64 0, .int .i64 0, .int .i64 0, .slice none 0 0]) := Lib.hid (by have := (Blk.new ((w.alloc (.cells #[.int .i64 a.supply, .int .i64 a.start, .int .i64 a.step, .int .i64 a.state, .slice A n c] 56)).alloc (.cells #[.int .i64 k, .int .i64 who, .int .i64 x] 46)) 56 #[.int .i64 0, .int .i64 0, .int .i64 0, .int .i64 0, .slice none 0 0]); simpa using this)
  clear hA hB hn hcn h
  unfold RTo at KN KB
  unfold rval at KN KB
  unfold rval
  go_enter Try.func30, Try.ntmps30
  go_upto_region 1 with (fail)
  obtain ⟨g1, hg1⟩ : ∃ g1, w.heap.size = g1 := ⟨_, rfl⟩
  have HG := Lib.hid hg1
  rw [hg1] at B0 B1 B2 ⊢
  clear hg1
  generalize World.alloc (World.alloc (World.alloc w _) _) _ = wy at hb0 B0 B1 B2 ⊢
  have HX : Hid (∀ wx : World, Below wy.heap.size wy wx → (wx.cell? ⟨g1, 0, none⟩ = some (.int .i64 a.supply) ∧ wx.cell? ⟨g1, 1, none⟩ = some (.int .i64 a.start) ∧ wx.cell? ⟨g1, 2, none⟩ = some (.int .i64 a.step) ∧ wx.cell? ⟨g1, 3, none⟩ = some (.int .i64 a.state) ∧ wx.cell? ⟨g1, 4, none⟩ = some (.slice A n c)) ∧ (wx.cell? ⟨g1 + 1, 0, none⟩ = some (.int .i64 k) ∧ wx.cell? ⟨g1 + 1, 1, none⟩ = some (.int .i64 who) ∧ wx.cell? ⟨g1 + 1, 2, none⟩ = some (.int .i64 x)) ∧ (wx.cell? ⟨g1 + 1 + 1, 0, none⟩ = some (.int .i64 0) ∧ wx.cell? ⟨g1 + 1 + 1, 1, none⟩ = some (.int .i64 0) ∧ wx.cell? ⟨g1 + 1 + 1, 2, none⟩ = some (.int .i64 0) ∧ wx.cell? ⟨g1 + 1 + 1, 3, none⟩ = some (.int .i64 0) ∧ wx.cell? ⟨g1 + 1 + 1, 4, none⟩ = some (.slice none 0 0)) ∧ (wx.frozen? ⟨g1 + 1 + 1, 0, none⟩ = false ∧ wx.frozen? ⟨g1 + 1 + 1, 1, none⟩ = false ∧ wx.frozen? ⟨g1 + 1 + 1, 2, none⟩ = false ∧ wx.frozen? ⟨g1 + 1 + 1, 3, none⟩ = false ∧ wx.frozen? ⟨g1 + 1 + 1, 4, none⟩ = false)) := Lib.hid fun wx hb => by
    have b0 := B0.out.below hb B0.out.lt
    have b1 := B1.out.below hb B1.out.lt
    have b2 := B2.out.below hb B2.out.lt
    exact ⟨⟨b0.cell 0, b0.cell 1, b0.cell 2, b0.cell 3, b0.cell 4⟩, ⟨b1.cell 0, b1.cell 1, b1.cell 2⟩, ⟨b2.cell 0, b2.cell 1, b2.cell 2, b2.cell 3, b2.cell 4⟩, ⟨b2.frozen 0, b2.frozen 1, b2.frozen 2, b2.frozen 3, b2.frozen 4⟩⟩
  obtain ⟨⟨c0, c1, c2, c3, c4⟩, ⟨x0, x1, x2⟩, -, -⟩ := HX.out wy (Below.refl _ _)
  by_cases h2 : arnd k 3 = 2
  · have E2 : Hid (a.act k who x = a.next.1) := Lib.hid (by rw [E.out, if_pos h2])
    rw [h2] at KAr
    clear hlt E h2 KB KPb
    obtain ⟨nx, hnx⟩ : ∃ nx, Hid (a.next = nx) := ⟨_, Lib.hid rfl⟩
    rw [hnx.out] at KN KPn hkinds E2
    obtain ⟨r, ov, er⟩ := nx
    simp only at KN KPn hkinds E2
    go_upto_region 3 with (first
      | (go_at_call 17; (refine (KAr.out _).mono ?_); rintro e w1 ⟨rfl, rfl⟩)
      | (go_at_call 37; (refine (KN.out _ hb0.out).mono ?_); rintro e w3 ⟨A', XS', c', rfl, hc', hr', hh, hla⟩; have HC := Lib.hid hc'; have HRr := Lib.hid hr'; have hb3 := Lib.hid hh; have HLa := Lib.hid hla; clear hc' hr' hh hla))
    obtain ⟨n', hn'⟩ : ∃ n', Hid (XS'.length = n') := ⟨_, Lib.hid rfl⟩
    rw [hn'.out] at HC HRr ⊢
    have hb4 : Hid (Below wy.heap.size wy (w3.alloc (.cells #[.int .i64 r.supply, .int .i64 r.start, .int .i64 r.step, .int .i64 r.state, .slice A' n' c'] 56))) := Lib.hid (hb3.out.alloc hb3.out.size _)
    have B4 : Hid (Blk (w3.alloc (.cells #[.int .i64 r.supply, .int .i64 r.start, .int .i64 r.step, .int .i64 r.state, .slice A' n' c'] 56)) w3.heap.size 56 #[.int .i64 r.supply, .int .i64 r.start, .int .i64 r.step, .int .i64 r.state, .slice A' n' c']) := Lib.hid (Blk.new _ _ _)
    have hk4 : Hid (∀ b, b < w3.heap.size → (w3.alloc (.cells #[.int .i64 r.supply, .int .i64 r.start, .int .i64 r.step, .int .i64 r.state, .slice A' n' c'] 56)).heap[b]? = w3.heap[b]?) := Lib.hid fun b hb => heap_alloc_old w3 _ hb
    have hs4 : Hid (w3.heap.size ≤ (w3.alloc (.cells #[.int .i64 r.supply, .int .i64 r.start, .int .i64 r.step, .int .i64 r.state, .slice A' n' c'] 56)).heap.size) := Lib.hid (by simp)
    have hg4 : Hid (w.heap.size ≤ w3.heap.size) := Lib.hid (Nat.le_trans hb0.out.size hb3.out.size)
    have HGL := Lib.hid (show g < w3.heap.size ∧ gl < w3.heap.size from ⟨Nat.lt_of_lt_of_le HgL.out.1 hg4.out, Nat.lt_of_lt_of_le HgL.out.2 hg4.out⟩)
    have hgz : Hid (g1 + 1 + 1 < wy.heap.size) := Lib.hid B2.out.lt
    have HG34 : Hid (g1 + 1 + 1 < w3.heap.size) := Lib.hid (Nat.lt_of_lt_of_le hgz.out hb3.out.size)
    obtain ⟨g4, hg4e⟩ : ∃ g4, w3.heap.size = g4 := ⟨_, rfl⟩
    have HG4 := Lib.hid hg4e
    rw [hg4e] at B4 HGL HG34 ⊢
    clear hg4e
    generalize World.alloc w3 _ = w4 at hb4 B4 hk4 hs4 ⊢
    go_upto_region 4 with (first
      | (go_at_call 23; (with_reducible refine (KPn.out _ (below_next hb0.out hb4.out)).mono ?_); rintro e w5 ⟨rfl, h5, ho5⟩; have HA5 := Lib.hid h5; have HO5 := Lib.hid ho5; clear h5 ho5))
    clear c0 c1 c2 c3 c4 x0 x1 x2
    have B5 : Hid (Blk w5 g4 56 #[.int .i64 r.supply, .int .i64 r.start, .int .i64 r.step, .int .i64 r.state, .slice A' n' c']) := Lib.hid (B4.out.only HO5.out (by have := HGL.out; rintro (rfl | rfl) <;> omega))
    have Z5 : Hid (Blk w5 (g1 + 1 + 1) 56 #[.int .i64 0, .int .i64 0, .int .i64 0, .int .i64 0, .slice none 0 0]) := Lib.hid ((B2.out.below hb4.out B2.out.lt).only HO5.out (by have := HgL.out; have := HG.out; rintro (rfl | rfl) <;> omega))
    have p0 : w5.cell? ⟨g4, 0, none⟩ = some (.int .i64 r.supply) := B5.out.cell 0
    have p1 : w5.cell? ⟨g4, 1, none⟩ = some (.int .i64 r.start) := B5.out.cell 1
    have p2 : w5.cell? ⟨g4, 2, none⟩ = some (.int .i64 r.step) := B5.out.cell 2
    have p3 : w5.cell? ⟨g4, 3, none⟩ = some (.int .i64 r.state) := B5.out.cell 3
    have p4 : w5.cell? ⟨g4, 4, none⟩ = some (.slice A' n' c') := B5.out.cell 4
    have z0 : w5.cell? ⟨g1 + 1 + 1, 0, none⟩ = some (.int .i64 0) := Z5.out.cell 0
    have z1 : w5.cell? ⟨g1 + 1 + 1, 1, none⟩ = some (.int .i64 0) := Z5.out.cell 1
    have z2 : w5.cell? ⟨g1 + 1 + 1, 2, none⟩ = some (.int .i64 0) := Z5.out.cell 2
    have z3 : w5.cell? ⟨g1 + 1 + 1, 3, none⟩ = some (.int .i64 0) := Z5.out.cell 3
    have z4 : w5.cell? ⟨g1 + 1 + 1, 4, none⟩ = some (.slice none 0 0) := Z5.out.cell 4
    have f0 := Z5.out.frozen 0
    have f1 := Z5.out.frozen 1
    have f2 := Z5.out.frozen 2
    have f3 := Z5.out.frozen 3
    have f4 := Z5.out.frozen 4
    have hOw : Hid (Only (feet2 g gl) w w5) := Lib.hid ((Only.of_below (below_next hb0.out hb4.out)).trans HO5.out fun k hk => .inl hk)
    have hOk : Hid (∀ b, b < w3.heap.size → ¬ feet2 g gl b → w5.heap[b]? = w3.heap[b]?) := Lib.hid fun b hb hf => (HO5.out.block b (Nat.lt_of_lt_of_le hb hs4.out) hf).trans (hk4.out b hb)
    have hsz5 : Hid (w3.heap.size ≤ w5.heap.size) := Lib.hid (Nat.le_trans hs4.out HO5.out.size)
    have HS4 : Hid (∀ wx, Only (fun b => b = g1 + 1 + 1) w5 wx → ((wx.cell? ⟨g4, 0, none⟩ = some (.int .i64 r.supply)) ∧ (wx.cell? ⟨g4, 1, none⟩ = some (.int .i64 r.start)) ∧ (wx.cell? ⟨g4, 2, none⟩ = some (.int .i64 r.step)) ∧ (wx.cell? ⟨g4, 3, none⟩ = some (.int .i64 r.state)) ∧ (wx.cell? ⟨g4, 4, none⟩ = some (.slice A' n' c')))) := Lib.hid fun wx ho => by
      have b4 := B5.out.only ho (by have := HG34.out; show ¬ g4 = g1 + 1 + 1; omega)
      exact ⟨b4.cell 0, b4.cell 1, b4.cell 2, b4.cell 3, b4.cell 4⟩
    have HO4 : Hid (Only (fun b => b = g1 + 1 + 1) w5 w5.drew) := Lib.hid ((Only.refl (fun b => b = g1 + 1 + 1) w5).drewN 1)
    rcases hkinds.out with ⟨rfl, rfl⟩ | ⟨rfl, rfl, hst⟩ | ⟨rfl, rfl, hst⟩
    · go_region
      all_goals
        go_wp2
        (try simp only [Exit.inBlock, Exit.then])
        refine bodyPost_ret (by simp [results, Try.results30, asAddr, go_sem, z0, z1, z2, z3, z4]; rfl) rfl ?_
        rw [E2.out]
        refine step_end HgL.out.1 HgL.out.2 rfl rfl rfl rfl hn'.out HC.out HRr.out hb0.out hb3.out HLa.out HA5.out hsz5.out hOk.out hOw.out (by rw [HG.out]; omega) hgz.out ?_
        first
          | exact (only_five (g := g1 + 1 + 1) (Only.refl (fun b => b = g1 + 1 + 1) w5) rfl _ _ _ _ _).drewN 1
          | exact only_five (g := g1 + 1 + 1) HO4.out rfl _ _ _ _ _
    · have hsB : (r.state != 0) = true := by simpa using hst
      have hsB2 : (r.state == 0) = false := by simpa using hst
      clear hst
      clear p0 p1 p2 p3 p4
      go_region_held3 (fun wx => ((wx.cell? ⟨g4, 0, none⟩ = some (.int .i64 r.supply)) ∧ (wx.cell? ⟨g4, 1, none⟩ = some (.int .i64 r.start)) ∧ (wx.cell? ⟨g4, 2, none⟩ = some (.int .i64 r.step)) ∧ (wx.cell? ⟨g4, 3, none⟩ = some (.int .i64 r.state)) ∧ (wx.cell? ⟨g4, 4, none⟩ = some (.slice A' n' c'))))
        (first | (with_reducible exact HS4.out _ HO4.out) | (with_reducible exact HS4.out _ (only_drew (only_five (g := g1 + 1 + 1) (Only.refl (fun b => b = g1 + 1 + 1) w5) rfl _ _ _ _ _))))
        (fail)
      all_goals
        go_wp2
        (try simp only [Exit.inBlock, Exit.then])
        refine bodyPost_ret (by simp [results, Try.results30, asAddr, go_sem, z0, z1, z2, z3, z4]; rfl) rfl ?_
        rw [E2.out]
        refine step_end HgL.out.1 HgL.out.2 rfl rfl rfl rfl hn'.out HC.out HRr.out hb0.out hb3.out HLa.out HA5.out hsz5.out hOk.out hOw.out (by rw [HG.out]; omega) hgz.out ?_
        exact (only_five (g := g1 + 1 + 1) (Only.refl (fun b => b = g1 + 1 + 1) w5) rfl _ _ _ _ _).drewN 1
    · have hsB : (r.state != 0) = false := by simpa using hst
      have hsB2 : (r.state == 0) = true := by simpa using hst
      clear hst
      clear p0 p1 p2 p3 p4
      go_region_held3 (fun wx => ((wx.cell? ⟨g4, 0, none⟩ = some (.int .i64 r.supply)) ∧ (wx.cell? ⟨g4, 1, none⟩ = some (.int .i64 r.start)) ∧ (wx.cell? ⟨g4, 2, none⟩ = some (.int .i64 r.step)) ∧ (wx.cell? ⟨g4, 3, none⟩ = some (.int .i64 r.state)) ∧ (wx.cell? ⟨g4, 4, none⟩ = some (.slice A' n' c'))))
        (first | (with_reducible exact HS4.out _ HO4.out) | (with_reducible exact HS4.out _ (only_drew (only_five (g := g1 + 1 + 1) (Only.refl (fun b => b = g1 + 1 + 1) w5) rfl _ _ _ _ _))))
        (fail)
      all_goals
        go_wp2
        (try simp only [Exit.inBlock, Exit.then])
        refine bodyPost_ret (by simp [results, Try.results30, asAddr, go_sem, z0, z1, z2, z3, z4]; rfl) rfl ?_
        rw [E2.out]
        refine step_end HgL.out.1 HgL.out.2 rfl rfl rfl rfl hn'.out HC.out HRr.out hb0.out hb3.out HLa.out HA5.out hsz5.out hOk.out hOw.out (by rw [HG.out]; omega) hgz.out ?_
        exact (only_five (g := g1 + 1 + 1) (Only.refl (fun b => b = g1 + 1 + 1) w5) rfl _ _ _ _ _).drewN 1
  · have E2 : Hid (a.act k who x = (a.bid who x).1) := Lib.hid (by rw [E.out, if_neg h2])
    obtain ⟨kk, hkk⟩ : ∃ kk, arnd k 3 = kk := ⟨_, rfl⟩
    rw [hkk] at KAr h2 hlt
    have h2I : ¬ (kk : Int) = 2 := by omega
    have h2B : (kk == 2) = false := by simpa using h2
    have h2BI : ((kk : Int) == 2) = false := by simpa using h2I
    clear hlt E h2 KN KPn hkinds hkk
    obtain ⟨nx, hnx⟩ : ∃ nx, Hid (a.bid who x = nx) := ⟨_, Lib.hid rfl⟩
    rw [hnx.out] at KB KPb E2
    obtain ⟨r, er⟩ := nx
    simp only at KB KPb E2
    go_upto_region 6 with (first
      | (go_at_call 17; (refine (KAr.out _).mono ?_); rintro e w1 ⟨rfl, rfl⟩)
      | (go_at_call 38; (refine (KB.out _ hb0.out).mono ?_); rintro e w3 ⟨A', XS', c', rfl, hc', hr', hh, hla⟩; have HC := Lib.hid hc'; have HRr := Lib.hid hr'; have hb3 := Lib.hid hh; have HLa := Lib.hid hla; clear hc' hr' hh hla))
    obtain ⟨n', hn'⟩ : ∃ n', Hid (XS'.length = n') := ⟨_, Lib.hid rfl⟩
    rw [hn'.out] at HC HRr ⊢
    have hb4 : Hid (Below wy.heap.size wy (w3.alloc (.cells #[.int .i64 r.supply, .int .i64 r.start, .int .i64 r.step, .int .i64 r.state, .slice A' n' c'] 56))) := Lib.hid (hb3.out.alloc hb3.out.size _)
    have B4 : Hid (Blk (w3.alloc (.cells #[.int .i64 r.supply, .int .i64 r.start, .int .i64 r.step, .int .i64 r.state, .slice A' n' c'] 56)) w3.heap.size 56 #[.int .i64 r.supply, .int .i64 r.start, .int .i64 r.step, .int .i64 r.state, .slice A' n' c']) := Lib.hid (Blk.new _ _ _)
    have hk4 : Hid (∀ b, b < w3.heap.size → (w3.alloc (.cells #[.int .i64 r.supply, .int .i64 r.start, .int .i64 r.step, .int .i64 r.state, .slice A' n' c'] 56)).heap[b]? = w3.heap[b]?) := Lib.hid fun b hb => heap_alloc_old w3 _ hb
    have hs4 : Hid (w3.heap.size ≤ (w3.alloc (.cells #[.int .i64 r.supply, .int .i64 r.start, .int .i64 r.step, .int .i64 r.state, .slice A' n' c'] 56)).heap.size) := Lib.hid (by simp)
    have hg4 : Hid (w.heap.size ≤ w3.heap.size) := Lib.hid (Nat.le_trans hb0.out.size hb3.out.size)
    have HGL := Lib.hid (show g < w3.heap.size ∧ gl < w3.heap.size from ⟨Nat.lt_of_lt_of_le HgL.out.1 hg4.out, Nat.lt_of_lt_of_le HgL.out.2 hg4.out⟩)
    have hgz : Hid (g1 + 1 + 1 < wy.heap.size) := Lib.hid B2.out.lt
    have HG34 : Hid (g1 + 1 + 1 < w3.heap.size) := Lib.hid (Nat.lt_of_lt_of_le hgz.out hb3.out.size)
    obtain ⟨g4, hg4e⟩ : ∃ g4, w3.heap.size = g4 := ⟨_, rfl⟩
    have HG4 := Lib.hid hg4e
    rw [hg4e] at B4 HGL HG34 ⊢
    clear hg4e
    generalize World.alloc w3 _ = w4 at hb4 B4 hk4 hs4 ⊢
    clear c0 c1 c2 c3 c4 x0 x1 x2
    have X4 : Hid (Blk w4 (g1 + 1) 46 #[.int .i64 k, .int .i64 who, .int .i64 x]) := Lib.hid (B1.out.below hb4.out B1.out.lt)
    have HSx : Hid (∀ wx, Only (fun b => b = g ∨ b = gl ∨ b = g1 + 1 + 1) w4 wx → (((wx.cell? ⟨g4, 0, none⟩ = some (.int .i64 r.supply)) ∧ (wx.cell? ⟨g4, 1, none⟩ = some (.int .i64 r.start)) ∧ (wx.cell? ⟨g4, 2, none⟩ = some (.int .i64 r.step)) ∧ (wx.cell? ⟨g4, 3, none⟩ = some (.int .i64 r.state)) ∧ (wx.cell? ⟨g4, 4, none⟩ = some (.slice A' n' c'))) ∧ wx.cell? ⟨g1 + 1, 1, none⟩ = some (.int .i64 who) ∧ wx.cell? ⟨g1 + 1, 2, none⟩ = some (.int .i64 x))) := Lib.hid fun wx ho => by
      have b4 := B4.out.only ho (by have := HGL.out; have := HG34.out; rintro (rfl | rfl | rfl) <;> omega)
      have b1 := X4.out.only ho (by have := HgL.out; have := HG.out; rintro (rfl | rfl | hh) <;> omega)
      exact ⟨⟨b4.cell 0, b4.cell 1, b4.cell 2, b4.cell 3, b4.cell 4⟩, b1.cell 1, b1.cell 2⟩
    have HO0 : Hid (Only (fun b => b = g ∨ b = gl ∨ b = g1 + 1 + 1) w4 w4.drew) := Lib.hid ((Only.refl _ _).drewN 1)
    have HKx := Lib.hid (KPb.out w4.drew (below_draw (below_next hb0.out hb4.out) 1))
    have Z4 : Hid (Blk w4 (g1 + 1 + 1) 56 #[.int .i64 0, .int .i64 0, .int .i64 0, .int .i64 0, .slice none 0 0]) := Lib.hid (B2.out.below hb4.out B2.out.lt)
    have HZ : Hid (∀ wx, Only (feet2 g gl) w4 wx → (wx.cell? ⟨g1 + 1 + 1, 0, none⟩ = some (.int .i64 0) ∧ wx.cell? ⟨g1 + 1 + 1, 1, none⟩ = some (.int .i64 0) ∧ wx.cell? ⟨g1 + 1 + 1, 2, none⟩ = some (.int .i64 0) ∧ wx.cell? ⟨g1 + 1 + 1, 3, none⟩ = some (.int .i64 0) ∧ wx.cell? ⟨g1 + 1 + 1, 4, none⟩ = some (.slice none 0 0)) ∧ (wx.frozen? ⟨g1 + 1 + 1, 0, none⟩ = false ∧ wx.frozen? ⟨g1 + 1 + 1, 1, none⟩ = false ∧ wx.frozen? ⟨g1 + 1 + 1, 2, none⟩ = false ∧ wx.frozen? ⟨g1 + 1 + 1, 3, none⟩ = false ∧ wx.frozen? ⟨g1 + 1 + 1, 4, none⟩ = false)) := Lib.hid fun wx ho => by
      have b2 := Z4.out.only ho (by have := HgL.out; have := HG.out; rintro (rfl | rfl) <;> omega)
      exact ⟨⟨b2.cell 0, b2.cell 1, b2.cell 2, b2.cell 3, b2.cell 4⟩, ⟨b2.frozen 0, b2.frozen 1, b2.frozen 2, b2.frozen 3, b2.frozen 4⟩⟩
    go_region_held3 (fun wx => (((wx.cell? ⟨g4, 0, none⟩ = some (.int .i64 r.supply)) ∧ (wx.cell? ⟨g4, 1, none⟩ = some (.int .i64 r.start)) ∧ (wx.cell? ⟨g4, 2, none⟩ = some (.int .i64 r.step)) ∧ (wx.cell? ⟨g4, 3, none⟩ = some (.int .i64 r.state)) ∧ (wx.cell? ⟨g4, 4, none⟩ = some (.slice A' n' c'))) ∧ wx.cell? ⟨g1 + 1, 1, none⟩ = some (.int .i64 who) ∧ wx.cell? ⟨g1 + 1, 2, none⟩ = some (.int .i64 x)))
      (first | (with_reducible exact HSx.out _ HO0.out) | (with_reducible exact HSx.out _ HO5.out) | (with_reducible exact HSx.out _ (only_five (g := g1 + 1 + 1) HO5.out (.inr (.inr rfl)) _ _ _ _ _)))
      (first
        | (go_at_call 19; (with_reducible refine (HKx.out).mono ?_); rintro e w5 ⟨rfl, h5, ho5⟩; have HA5 := Lib.hid h5; have HOx : Hid (Only (feet2 g gl) w4 w5) := Lib.hid (((Only.refl _ _).drewN 1).trans ho5 fun k hk => .inl hk); have HO5 : Hid (Only (fun b => b = g ∨ b = gl ∨ b = g1 + 1 + 1) w4 w5) := Lib.hid (HOx.out.mono fun k hk => hk.elim .inl fun hh => .inr (.inl hh)); obtain ⟨⟨z0, z1, z2, z3, z4⟩, ⟨f0, f1, f2, f3, f4⟩⟩ := HZ.out w5 HOx.out; clear h5 ho5))
    have hOw : Hid (Only (feet2 g gl) w w5) := Lib.hid ((Only.of_below (below_next hb0.out hb4.out)).trans HOx.out fun k hk => .inl hk)
    have hOk : Hid (∀ b, b < w3.heap.size → ¬ feet2 g gl b → w5.heap[b]? = w3.heap[b]?) := Lib.hid fun b hb hf => (HOx.out.block b (Nat.lt_of_lt_of_le hb hs4.out) hf).trans (hk4.out b hb)
    have hsz5 : Hid (w3.heap.size ≤ w5.heap.size) := Lib.hid (Nat.le_trans hs4.out HOx.out.size)
    go_wp2
    (try simp only [Exit.inBlock, Exit.then])
    refine bodyPost_ret (by simp [results, Try.results30, asAddr, go_sem, z0, z1, z2, z3, z4]; rfl) rfl ?_
    rw [E2.out]
    exact step_end HgL.out.1 HgL.out.2 rfl rfl rfl rfl hn'.out HC.out HRr.out hb0.out hb3.out HLa.out HA5.out hsz5.out hOk.out hOw.out (by rw [HG.out]; omega) hgz.out (only_five (g := g1 + 1 + 1) (Only.refl (fun b => b = g1 + 1 + 1) w5) rfl _ _ _ _ _)
end Go.Proofs.Ytccmafmeblojpaa
