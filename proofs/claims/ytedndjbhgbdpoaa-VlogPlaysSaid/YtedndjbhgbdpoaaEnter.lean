/- The contract of Enter. -/
import Derived.Test.YtedndjbhgbdpoaaKeptW
namespace Go.Proofs.Ytedndjbhgbdpoaa
open Go.RowKit
section
variable {w : World} {g gm : Nat} {gv : Nat → Nat → Option Nat} {kv : Nat → Value} {l : Vl}
theorem AtV.setHead (h : AtV w g gm gv kv l) {j : Nat} (hj : j = 1 ∨ j = 2) (x : Int) (l' : Vl) (hl : l' = if j = 1 then { l with view := x } else { l with low := x }) (hok : l'.Ok) : AtV (w.setCell ⟨g, j, none⟩ (.int .i64 x)) g gm gv kv l' := by
  have hs : l'.slots = l.slots := by rw [hl]; split <;> rfl
  have hms : l'.marks = l.marks := by rw [hl]; split <;> rfl
  refine h.wrote ?_ (fun b hb hlt => heap_setCell_other w ⟨g, j, none⟩ b _ hb) (fun k j _ _ _ => by rw [hs]) (fun k j' hk hj' hgv => ?_) (by unfold marksOf; rw [hms]) (fun k hk => ?_) hok
  · have := h.blk.set_ j (.int .i64 x)
    rw [List.setIfInBounds_toArray] at this
    rw [← vcells_set (l := l) (gv := gv) (kv := kv) (j := j) (v := .int .i64 x) (by omega) ?_ ?_]
    · exact this
    · rcases hj with rfl | rfl <;> rw [hl] <;> rfl
    · intro i hi hne
      unfold vCell
      by_cases e0 : i = 0
      · rw [if_pos e0, if_pos e0, hl]; split <;> rfl
      by_cases e1 : i = 1
      · rw [if_neg e0, if_neg e0, if_pos e1, if_pos e1, hl, if_neg (by omega)]
      by_cases e2 : i = 2
      · rw [if_neg e0, if_neg e0, if_neg e1, if_neg e1, if_pos e2, if_pos e2, hl, if_pos (by omega)]
      rw [if_neg e0, if_neg e0, if_neg e1, if_neg e1, if_neg e2, if_neg e2, hs]
  · rw [hs]
    have := h.maps k j' hk hj'
    rw [hgv] at this
    exact this
  · rw [hs]
    exact (h.lists k hk).carry (fun b hb hlt _ => heap_setCell_other w ⟨g, j, none⟩ b _ hb) (by simp)
end
namespace Vl
def entering (l : Vl) (view : Int) (i : Nat) : Vl := { l with view := view, slots := fun k => if k < i then { Slot.none with kept := (l.slots k).kept } else l.slots k }
theorem entering_ok {l : Vl} (h : l.Ok) {view : Int} (h1 : l.view ≤ view) (h2 : view ≤ 1048576) (i : Nat) : (l.entering view i).Ok := by
  have h0 := h.view
  refine ⟨h.n, ⟨by show (0 : Int) ≤ view; omega, h2⟩, h.low, fun k j x hv => ?_, h.marks, fun k => ?_⟩
  · unfold entering at hv
    simp only at hv
    by_cases e : k < i
    · rw [if_pos e] at hv; exact absurd rfl hv
    · rw [if_neg e] at hv; exact h.votes k j x hv
  · have e : ((l.entering view i).slots k).kept = (l.slots k).kept := by
      unfold entering
      simp only
      split <;> rfl
    rw [e]
    rcases h.kept k with h3 | ⟨h3, h4, h5, h6⟩
    · exact .inl h3
    · exact .inr ⟨h3, h4, by show _ ≤ view; omega, h6⟩
theorem entering_step (l : Vl) (view : Int) (i : Nat) : (l.entering view i).put i { Slot.none with kept := (l.slots i).kept } = l.entering view (i + 1) := by
  unfold entering put
  simp only
  congr 1
  funext k
  by_cases e : k = i
  · subst e
    rw [if_pos rfl, if_pos (by omega)]
  · rw [if_neg e]
    by_cases e2 : k < i
    · rw [if_pos e2, if_pos (by omega)]
    · rw [if_neg e2, if_neg (by omega)]
end Vl
theorem zero_slot (w : World) : (zeroValue 77).run Try.prog w = .ok (.agg #[.bool false, .string ⟨#[]⟩, .string ⟨#[]⟩, .map none, .map none, .int .i64 0, .int .i64 0, .int .i64 0, .int .i64 0, .int .i64 0, .string ⟨#[]⟩, .string ⟨#[]⟩, .slice none 0 0]) w := by kernel_rfl
def gvOff (gv : Nat → Nat → Option Nat) (i : Nat) : Nat → Nat → Option Nat := fun k j => if k < i then none else gv k j
theorem gvOff_step (gv : Nat → Nat → Option Nat) (i : Nat) : (fun k => if k = i then (fun _ => none) else gvOff gv i k) = gvOff gv (i + 1) := by
  funext k
  by_cases e : k = i
  · subst e
    rw [if_pos rfl]
    funext j
    unfold gvOff
    rw [if_pos (by omega)]
  · rw [if_neg e]
    funext j
    unfold gvOff
    by_cases e2 : k < i
    · rw [if_pos e2, if_pos (by omega)]
    · rw [if_neg e2, if_neg (by omega)]
set_option maxHeartbeats 8000000 in
set_option maxRecDepth 100000 in
theorem enter_calls {w : World} {g gm : Nat} {gv : Nat → Nat → Option Nat} {kv : Nat → Value} {l : Vl} (h : AtV w g gm gv kv l) (view : Int) :
    Calls Try.prog 29 #[.pointer (some ⟨g, 0, none⟩), .int .i64 view] w fun e w' => e = .returned (.int .i64 (l.enter view).2) ∧ VoteTo w w' g gm gv (l.enter view).1 ∧ Only (fun x => x = g) w w' := by
  have H := Lib.hid h
  obtain ⟨-, c1, -, -⟩ := h.head
  have f1 := h.blk.frozen 1
  have hsame : Hid (∀ c, l.enter view = (l, c) → VoteTo w w g gm gv (l.enter view).1 ∧ Only (fun x => x = g) w w) := Lib.hid fun c e => ⟨⟨gv, kv, by rw [e]; exact H.out, fun _ _ _ _ _ h => .inl h⟩, Only.refl _ _⟩
  by_cases h1 : view ≤ l.view
  · have E : Hid (l.enter view = (l, 1)) := Lib.hid (by unfold Vl.enter; rw [if_pos (.inl h1)])
    rw [E.out]
    rw [E.out] at hsame
    clear h f1
    generalize l.view = vw at c1 h1
    go_enter Try.func29, Try.ntmps29
    go_wp2
    go_ret
    exact ⟨rfl, hsame.out 1 rfl⟩
  · by_cases h2 : 1048576 < view
    · have E : Hid (l.enter view = (l, 1)) := Lib.hid (by unfold Vl.enter; rw [if_pos (.inr h2)])
      rw [E.out]
      rw [E.out] at hsame
      clear h f1
      generalize l.view = vw at c1 h1
      go_enter Try.func29, Try.ntmps29
      go_wp2
      go_ret
      exact ⟨rfl, hsame.out 1 rfl⟩
    · have E : Hid (l.enter view = (l.entering view 8, 0)) := Lib.hid (by
        unfold Vl.enter
        rw [if_neg (by omega)]; rfl)
      have hput := h.setHead (.inl rfl) view (l.entering view 0) (by unfold Vl.entering; simp) (Vl.entering_ok h.ok (by omega) (by omega) 0)
      have HOk := Lib.hid (fun i => Vl.entering_ok h.ok (view := view) (by omega) (by omega) i)
      have hO : Hid (Only (fun x => x = g) w (w.setCell ⟨g, 1, none⟩ (.int .i64 view))) := Lib.hid ((Only.refl (fun x => x = g) w).setCell (g := g) (j := 1) (.inl rfl) _)
      have HP := Lib.hid hput
      clear hput h
      obtain ⟨vw, hvw⟩ : ∃ vw, l.view = vw := ⟨_, rfl⟩
      rw [hvw] at c1 h1
      clear hvw
      have hz := zero_slot
      go_enter Try.func29, Try.ntmps29
      go_wp2
      generalize World.setCell w _ _ = w1 at HP hO ⊢
      clear c1 f1
      go_loopg [24] 9 (fun gk s24 wr => ∃ i kv', gk = 9 - i ∧ i ≤ 8 ∧ s24 = .int .i64 (i : Int) ∧ Hid (AtV wr g gm (gvOff gv i) kv' (l.entering view i)) ∧ Hid (Only (fun x => x = g) w wr))
      case atStart => exact ⟨0, kv, rfl, by omega, rfl, by exact HP, hO⟩
      case round =>
        clear HP hO
        obtain ⟨i, kv', rfl, hi, rfl, hA, hO⟩ := hrel
        have i0 : (0 : Int) ≤ (i : Int) := by omega
        by_cases hlt : i < 8
        · have hltI : (i : Int) < 8 := by omega
          obtain ⟨⟨x0, x1, x2, x3, x4, x5, x6, x7⟩, -⟩ := hA.out.kcells hlt
          have hsl : Hid ((l.entering view i).slots i = l.slots i) := Lib.hid (by unfold Vl.entering; simp)
          rw [hsl.out] at x0 x1 x2 x5 x6
          have hLs := hA.out.lists i hlt
          rw [hsl.out] at hLs
          obtain ⟨u, hu⟩ : ∃ u, Hid (kv' i = u) := ⟨_, Lib.hid rfl⟩
          rw [hu.out] at x7 hLs
          obtain ⟨X, lX, cX, hux⟩ : ∃ X lX cX, u = .slice X lX cX := by
            rcases hLs with ⟨h3, _⟩ | ⟨b, o, c', h3, _, _⟩
            · exact ⟨_, _, _, h3⟩
            · exact ⟨_, _, _, h3⟩
          have hth : Hid (wr.drew.there g (3 + i * 13) 13) := Lib.hid fun j hj => by
            have e := (hA.out.drewN 1).field (k := i) (j := j) hlt hj
            exact ⟨by rw [show wr.drew.cell? _ = _ from e]; rfl, (hA.out.drewN 1).blk.frozen _⟩
          obtain ⟨kb, hkb⟩ : ∃ kb, Hid ((l.slots i).kept = kb) := ⟨_, Lib.hid rfl⟩
          rw [hkb.out] at x0 x1 x2 x5 x6 hLs
          have hnext : Hid (AtV (wr.drew.setCells g (3 + i * 13) [.bool false, .string ⟨#[]⟩, .string ⟨#[]⟩, .map none, .map none, .int .i64 kb.kind, .int .i64 kb.view, .int .i64 kb.seq, .int .i64 0, .int .i64 0, .string kb.digest, .string kb.text, u]) g gm (gvOff gv (i + 1)) kv' (l.entering view (i + 1))) := Lib.hid (by
            have hput := AtV.slotPut (hA.out.drewN 1) (k := i) (o := 0) hlt [.bool false, .string ⟨#[]⟩, .string ⟨#[]⟩, .map none, .map none, .int .i64 kb.kind, .int .i64 kb.view, .int .i64 kb.seq, .int .i64 0, .int .i64 0, .string kb.digest, .string kb.text, u] (by simp) { Slot.none with kept := kb } (fun _ => none) u
              (fun j hj => by
                simp only [List.length_cons, List.length_nil] at hj
                rcases (show j = 0 ∨ j = 1 ∨ j = 2 ∨ j = 3 ∨ j = 4 ∨ j = 5 ∨ j = 6 ∨ j = 7 ∨ j = 8 ∨ j = 9 ∨ j = 10 ∨ j = 11 ∨ j = 12 by omega) with rfl | rfl | rfl | rfl | rfl | rfl | rfl | rfl | rfl | rfl | rfl | rfl | rfl <;> rfl)
              (fun j hj hj2 => by simp only [List.length_cons, List.length_nil] at hj2; omega)
              (fun j _ => .inr (.inl ⟨rfl, fun _ => rfl⟩)) (hLs.carry (fun _ _ _ _ => rfl) (Nat.le_refl _)) (by
                have := l.entering_step view i
                rw [hkb.out] at this
                rw [this]; exact HOk.out (i + 1))
            have e1 := l.entering_step view i
            rw [hkb.out] at e1
            rw [e1, gvOff_step, show (fun j => if j = i then u else kv' j) = kv' from by funext j; split <;> simp_all [hu.out]] at hput
            exact hput)
          have hOn : Hid (Only (fun x => x = g) w (wr.drew.setCells g (3 + i * 13) [.bool false, .string ⟨#[]⟩, .string ⟨#[]⟩, .map none, .map none, .int .i64 kb.kind, .int .i64 kb.view, .int .i64 kb.seq, .int .i64 0, .int .i64 0, .string kb.digest, .string kb.text, u])) := Lib.hid ((hO.out.drewN 1).trans (only_setCells _ _ _ _) fun b hb => .inl hb)
          have HSz : Hid ((Try.prog.info? 77).map (·.size) = some 13) := Lib.hid (by kernel_rfl)
          obtain ⟨kd, kw, kq, kg, kt, kl⟩ := kb
          simp only at x0 x1 x2 x5 x6 hnext hOn
          subst hux
          clear hLs hA hO hkb hsl hu
          go_upto_region 7 with (fail)
          go_still_tail 15, (by kernel_rfl)
          change wpList _ _ _ _ _ wr.drew
          refine wpList_store_mid rfl 77 (.tmp 41) (.tmp 37) rfl g (3 + i * 13) #[.bool false, .string ⟨#[]⟩, .string ⟨#[]⟩, .map none, .map none, .int .i64 kd, .int .i64 kw, .int .i64 kq, .int .i64 0, .int .i64 0, .string kg, .string kt, .slice X lX cX] rfl rfl hth.out HSz.out (by simp [Value.oneCell']) ?_
          go_wp2
          go_roundg (9 - (i + 1))
          case measure => omega
          case rel => exact ⟨i + 1, kv', rfl, by omega, by go_num, hnext, hOn⟩
        · obtain rfl : i = 8 := by omega
          go_wp2
          go_ret
          rw [E.out]
          exact ⟨rfl, ⟨gvOff gv 8, kv', hA.out, fun k j b hk _ hb => by unfold gvOff at hb; rw [if_pos hk] at hb; cases hb⟩, hO.out⟩
end Go.Proofs.Ytedndjbhgbdpoaa
