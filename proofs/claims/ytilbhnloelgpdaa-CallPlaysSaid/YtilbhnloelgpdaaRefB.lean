/- The reference's book: Cancel, Put. -/
import Derived.Test.YtilbhnloelgpdaaRefA
namespace Go.Proofs.Ytilbhnloelgpdaa
open Go.RowKit
set_option linter.unusedVariables false
set_option linter.unusedSimpArgs false
/-- A book and an error: the same book, or one of its own. -/
def RTo (w : World) (A : Option Addr) (c : Nat) (b : Bk) (r : Bk × Int) (e : Ending) (w' : World) : Prop :=
  ∃ A' c', e = .returned (.tuple #[rval A' c' r.1, .int .i64 r.2]) ∧ Below w.heap.size w w' ∧ ((A' = A ∧ c' = c ∧ r.1 = b) ∨ Mine w w' 6 (.slice A' r.1.l.length c') r.1.l.length (ocells r.1.l))
theorem rto_same {w w3 : World} {A : Option Addr} {c n gr : Nat} {b : Bk} {nx e : Int} {r : Bk × Int} (hb : Below w.heap.size w w3) (hg : w.heap.size ≤ gr) (hn : b.l.length = n) (hx : b.next = nx) (hr : r = (b, e)) (v0 v1 : Value) :
    RTo w A c b r (.returned (.tuple #[.agg #[.slice A n c, .int .i64 nx], .int .i64 e])) ((w3.setCell ⟨gr, 0, none⟩ v0).setCell ⟨gr, 1, none⟩ v1) := by
  subst hr
  subst hn
  subst hx
  exact ⟨A, c, rfl, (hb.setCell (p := ⟨gr, 0, none⟩) hg _).setCell (p := ⟨gr, 1, none⟩) hg _, .inl ⟨rfl, rfl, rfl⟩⟩
theorem rto_new {w wx w3 : World} {A A0 : Option Addr} {c c0 n gr : Nat} {b : Bk} {L : List Ord} {nx e : Int} {r : Bk × Int} (hb : Below w.heap.size w wx) (hm : Mine wx w3 6 (.slice A n c) n (ocells L)) (hb3 : Below wx.heap.size wx w3) (hg : w.heap.size ≤ gr ∧ gr < wx.heap.size) (hn : L.length = n) (hr : r = (⟨L, nx⟩, e)) (v0 v1 : Value) :
    RTo w A0 c0 b r (.returned (.tuple #[.agg #[.slice A n c, .int .i64 nx], .int .i64 e])) ((w3.setCell ⟨gr, 0, none⟩ v0).setCell ⟨gr, 1, none⟩ v1) := by
  subst hr
  subst hn
  exact ⟨A, c, rfl, ((below_next hb hb3).setCell (p := ⟨gr, 0, none⟩) hg.1 _).setCell (p := ⟨gr, 1, none⟩) hg.1 _, .inr (((hm.far hg.2 _ _).far hg.2 _ _).base hb.size)⟩
theorem without_at (w : World) (A : Option Addr) (L : List Ord) (c i : Nat) (h : ORow w A L) (hl : L.length ≤ 64) : Calls Try.prog 65 #[.slice A L.length c, .int .i64 (i : Int)] w (Listed w (L.eraseIdx i)) := by
  have := without_calls w A L c (i : Int) h hl
  rwa [wo_but L i L.length (Nat.le_refl _), List.take_length] at this
theorem without_none (w : World) (A : Option Addr) (L : List Ord) (c : Nat) (h : ORow w A L) (hl : L.length ≤ 64) : Calls Try.prog 65 #[.slice A L.length c, .int .i64 (-1)] w (Listed w L) := by
  have := without_calls w A L c (-1) h hl
  rwa [wo_all L L.length (Nat.le_refl _), List.take_length] at this
set_option maxHeartbeats 8000000 in
set_option maxRecDepth 20000 in
theorem rcancel_calls (w : World) (A : Option Addr) (b : Bk) (c : Nat) (id owner : Int) (h : ORow w A b.l) (hok : b.Ok) :
    Calls Try.prog 50 #[rval A c b, .int .i64 id, .int .i64 owner] w (RTo w A c b (b.cancel id owner)) := by
  have hl := hok.few
  have HOw := Lib.hid (fun wx (hb : Below w.heap.size w wx) => rown_calls wx A b c id owner (h.below hb) hl)
  have HWo := Lib.hid (fun wx (hb : Below w.heap.size w wx) i => without_at wx A b.l c i (h.below hb) hl)
  unfold Listed at HWo
  obtain ⟨n, hn⟩ : ∃ n, Hid (b.l.length = n) := ⟨_, Lib.hid rfl⟩
  obtain ⟨nx, hnx⟩ : ∃ nx, Hid (b.next = nx) := ⟨_, Lib.hid rfl⟩
  obtain ⟨R, hR⟩ : ∃ R, Hid (b.cancel id owner = R) := ⟨_, Lib.hid rfl⟩
  have hz := Lib.hid (fun (e : (b.mine id owner).2 = 0) => Bk.mine_zero e)
  have hce : Hid (R = if (b.mine id owner).2 ≠ 0 then (b, (b.mine id owner).2) else (⟨b.l.eraseIdx (Bk.ix b.l id), b.next⟩, 0)) := Lib.hid (by rw [← hR.out]; rfl)
  rw [hR.out]
  unfold rval at HOw ⊢
  rw [hn.out] at HWo hl
  rw [hn.out, hnx.out] at HOw ⊢
  rw [hnx.out] at hce
  have hb0 : Hid (Below w.heap.size w ((w.alloc (.cells #[.slice A n c, .int .i64 nx] 53)).alloc (.cells #[.slice none 0 0, .int .i64 0] 53))) := Lib.hid (((Below.refl _ _).alloc (Nat.le_refl _) _).alloc (by simp) _)
  have B0 := Lib.hid ((Blk.new w 53 #[.slice A n c, .int .i64 nx]).alloc (.cells #[.slice none 0 0, .int .i64 0] 53))
  have B1 : Hid (Blk ((w.alloc (.cells #[.slice A n c, .int .i64 nx] 53)).alloc (.cells #[.slice none 0 0, .int .i64 0] 53)) (w.heap.size + 1) 53 #[.slice none 0 0, .int .i64 0]) := Lib.hid (by
    have h := Blk.new (w.alloc (.cells #[.slice A n c, .int .i64 nx] 53)) 53 #[.slice none 0 0, .int .i64 0]
    rw [show (w.alloc (.cells #[.slice A n c, .int .i64 nx] 53)).heap.size = w.heap.size + 1 from by simp] at h
    exact h)
  obtain ⟨gb, hgb⟩ : ∃ g, Hid (w.heap.size = g) := ⟨_, Lib.hid rfl⟩
  have H := Lib.hid h
  clear h hok
  by_cases hm : (b.mine id owner).2 = 0
  · obtain ⟨hi, _, hme⟩ := hz.out hm
    have hcr := Lib.hid (by have := hce.out; rwa [if_neg (by simpa using hm)] at this)
    rw [hme] at HOw
    obtain ⟨i, hie⟩ : ∃ i, Hid (Bk.ix b.l id = i) := ⟨_, Lib.hid rfl⟩
    rw [hie.out] at HOw hi hcr
    obtain ⟨L3, hL3⟩ : ∃ L3, Hid (b.l.eraseIdx i = L3) := ⟨_, Lib.hid rfl⟩
    have HWi := Lib.hid (fun wx hh => HWo.out wx hh i)
    rw [hL3.out] at HWi hcr
    obtain ⟨m3, hm3⟩ : ∃ m, Hid (L3.length = m) := ⟨_, Lib.hid rfl⟩
    rw [hm3.out] at HWi
    clear hm hi hme hz hce HWo
    have h00 : ((0 : Int) != 0) = false := rfl
    go_enter Try.func50, Try.ntmps50
    go_upto_region 1 with (fail)
    have hg : Hid (w.heap.size = gb) := hgb
    rw [hg.out] at B0 B1 ⊢
    generalize World.alloc (World.alloc w _) _ = wy at hb0 B0 B1 ⊢
    obtain ⟨x0, x1⟩ : wy.cell? ⟨gb, 0, none⟩ = some (.slice A n c) ∧ wy.cell? ⟨gb, 1, none⟩ = some (.int .i64 nx) := ⟨B0.out.cell 0, B0.out.cell 1⟩
    obtain ⟨z0, z1⟩ : wy.cell? ⟨gb + 1, 0, none⟩ = some (.slice none 0 0) ∧ wy.cell? ⟨gb + 1, 1, none⟩ = some (.int .i64 0) := ⟨B1.out.cell 0, B1.out.cell 1⟩
    obtain ⟨f0, f1⟩ : wy.frozen? ⟨gb + 1, 0, none⟩ = false ∧ wy.frozen? ⟨gb + 1, 1, none⟩ = false := ⟨B1.out.frozen 0, B1.out.frozen 1⟩
    have HX : Hid (∀ wx, Below wy.heap.size wy wx → (wx.cell? ⟨gb, 0, none⟩ = some (.slice A n c) ∧ wx.cell? ⟨gb, 1, none⟩ = some (.int .i64 nx)) ∧ (wx.cell? ⟨gb + 1, 0, none⟩ = some (.slice none 0 0) ∧ wx.cell? ⟨gb + 1, 1, none⟩ = some (.int .i64 0)) ∧ wx.frozen? ⟨gb + 1, 0, none⟩ = false ∧ wx.frozen? ⟨gb + 1, 1, none⟩ = false) := Lib.hid fun wx hb => by
      have b0 := B0.out.below hb B0.out.lt
      have b1 := B1.out.below hb B1.out.lt
      exact ⟨⟨b0.cell 0, b0.cell 1⟩, ⟨b1.cell 0, b1.cell 1⟩, b1.frozen 0, b1.frozen 1⟩
    have HGR : Hid (w.heap.size ≤ gb + 1 ∧ gb + 1 < wy.heap.size) := Lib.hid ⟨by rw [hg.out]; omega, B1.out.lt⟩
    go_upto_region 4 with (go_at_call 64; (with_reducible refine (HOw.out _ hb0.out).mono ?_); rintro e w1 ⟨rfl, hh⟩; have hb1 := Lib.hid hh; clear hh)
    clear x0 x1 z0 z1 f0 f1
    have hbw := Lib.hid (below_next hb0.out hb1.out)
    have HX1 := Lib.hid (fun wx (hb : Below w1.heap.size w1 wx) => HX.out wx (below_next hb1.out hb))
    obtain ⟨⟨x0, x1⟩, ⟨z0, z1⟩, f0, f1⟩ := HX1.out w1 (Below.refl _ _)
    have HWx := Lib.hid (HWi.out w1.drew (below_next hbw.out (Below.refl _ _).drew))
    go_region_with (go_at_call 65; (with_reducible refine HWx.out.mono ?_); rintro e w3 ⟨A3, c3, rfl, hmm, hh⟩; have hM3 := Lib.hid hmm; have hh3 := Lib.hid hh; have hb3 : Below w1.heap.size w1 w3 := below_next (Below.refl _ _).drew hh; clear hmm hh; obtain ⟨⟨y0, y1⟩, ⟨z0', z1'⟩, f0', f1'⟩ := HX1.out w3 hb3)
    all_goals
      go_wp2
      (try simp only [Exit.inBlock, Exit.then])
      refine bodyPost_ret (by simp [results, Try.results50, asAddr, go_sem, z0', z1']; rfl) rfl ?_
      exact rto_new (below_next hbw.out (Below.refl _ _).drew) hM3.out hh3.out ⟨HGR.out.1, Nat.lt_of_lt_of_le HGR.out.2 hb1.out.size⟩ hm3.out hcr.out _ _
  · have hcr := Lib.hid (by have := hce.out; rwa [if_pos hm] at this)
    have hmne : ((b.mine id owner).2 != 0) = true := by simpa using hm
    obtain ⟨T, hT⟩ : ∃ T, Hid (b.mine id owner = T) := ⟨_, Lib.hid rfl⟩
    rw [hT.out] at HOw hcr hmne
    obtain ⟨T1, T2⟩ := T
    simp only at HOw hcr hmne
    clear hm hz hce HWo
    go_enter Try.func50, Try.ntmps50
    go_upto_region 1 with (fail)
    have hg : Hid (w.heap.size = gb) := hgb
    rw [hg.out] at B0 B1 ⊢
    generalize World.alloc (World.alloc w _) _ = wy at hb0 B0 B1 ⊢
    obtain ⟨x0, x1⟩ : wy.cell? ⟨gb, 0, none⟩ = some (.slice A n c) ∧ wy.cell? ⟨gb, 1, none⟩ = some (.int .i64 nx) := ⟨B0.out.cell 0, B0.out.cell 1⟩
    obtain ⟨z0, z1⟩ : wy.cell? ⟨gb + 1, 0, none⟩ = some (.slice none 0 0) ∧ wy.cell? ⟨gb + 1, 1, none⟩ = some (.int .i64 0) := ⟨B1.out.cell 0, B1.out.cell 1⟩
    obtain ⟨f0, f1⟩ : wy.frozen? ⟨gb + 1, 0, none⟩ = false ∧ wy.frozen? ⟨gb + 1, 1, none⟩ = false := ⟨B1.out.frozen 0, B1.out.frozen 1⟩
    have HX : Hid (∀ wx, Below wy.heap.size wy wx → (wx.cell? ⟨gb, 0, none⟩ = some (.slice A n c) ∧ wx.cell? ⟨gb, 1, none⟩ = some (.int .i64 nx)) ∧ (wx.cell? ⟨gb + 1, 0, none⟩ = some (.slice none 0 0) ∧ wx.cell? ⟨gb + 1, 1, none⟩ = some (.int .i64 0)) ∧ wx.frozen? ⟨gb + 1, 0, none⟩ = false ∧ wx.frozen? ⟨gb + 1, 1, none⟩ = false) := Lib.hid fun wx hb => by
      have b0 := B0.out.below hb B0.out.lt
      have b1 := B1.out.below hb B1.out.lt
      exact ⟨⟨b0.cell 0, b0.cell 1⟩, ⟨b1.cell 0, b1.cell 1⟩, b1.frozen 0, b1.frozen 1⟩
    have HGR : Hid (w.heap.size ≤ gb + 1 ∧ gb + 1 < wy.heap.size) := Lib.hid ⟨by rw [hg.out]; omega, B1.out.lt⟩
    go_wp2_with (go_at_call 64; (with_reducible refine (HOw.out _ hb0.out).mono ?_); rintro e w1 ⟨rfl, hh⟩; have hb1 := Lib.hid hh; clear hh; obtain ⟨⟨y0, y1⟩, ⟨z0', z1'⟩, f0', f1'⟩ := HX.out w1 hb1.out)
    (try simp only [Exit.inBlock, Exit.then])
    refine bodyPost_ret (by simp [results, Try.results50, asAddr, go_sem, z0', z1']; rfl) rfl ?_
    exact rto_same (below_next hb0.out hb1.out) HGR.out.1 hn.out hnx.out hcr.out _ _
end Go.Proofs.Ytilbhnloelgpdaa
