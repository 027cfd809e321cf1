/- Two logs side by side; two quorums meet: the plain law. -/
import Derived.Test.YtedndjbhgbdpoaaVk
import Derived.Test.YtedndjbhgbdpoaaTexts
namespace Go.Proofs.Ytedndjbhgbdpoaa
open Go.RowKit
section
variable {w w' : World} {g g2 gm gm2 : Nat} {gv gv2 : Nat → Nat → Option Nat} {kv kv2 : Nat → Value} {l l2 : Vl}
theorem slotCell_string {s : Slot} {gv : Nat → Option Nat} {kv : Value} {j : Nat} (hj : j < 12) {x : ByteArray} (h : slotCell s gv kv j = .string x) : j = 1 ∨ j = 2 ∨ j = 10 ∨ j = 11 := by
  rcases (show j = 0 ∨ j = 1 ∨ j = 2 ∨ j = 3 ∨ j = 4 ∨ j = 5 ∨ j = 6 ∨ j = 7 ∨ j = 8 ∨ j = 9 ∨ j = 10 ∨ j = 11 by omega) with rfl | rfl | rfl | rfl | rfl | rfl | rfl | rfl | rfl | rfl | rfl | rfl <;> simp [slotCell] at h <;> omega
theorem AtV.no_list (h : AtV w g gm gv kv l) {o : Nat} {a d : Int} {b c : ByteArray} (h0 : w.cell? ⟨g, o, none⟩ = some (.int .i64 a)) (h1 : w.cell? ⟨g, o + 1, none⟩ = some (.string b)) (h2 : w.cell? ⟨g, o + 2, none⟩ = some (.string c)) (h3 : w.cell? ⟨g, o + 3, none⟩ = some (.int .i64 d)) : False := by
  have lt : ∀ {t : Nat} {v : Value}, w.cell? ⟨g, t, none⟩ = some v → t < 108 := fun {t v} ht => by
    rw [h.blk.cell, List.getElem?_toArray] at ht
    have := (List.getElem?_eq_some_iff.1 ht).1
    simpa [vcells] using this
  have hl3 := lt h3
  have pos : ∀ {t : Nat} {x : ByteArray}, w.cell? ⟨g, t, none⟩ = some (.string x) → ∃ k j, t = 3 + k * 13 + j ∧ k < 8 ∧ (j = 1 ∨ j = 2 ∨ j = 10 ∨ j = 11) := fun {t x} ht => by
    have h108 := lt ht
    rw [h.cell h108] at ht
    by_cases hs : 3 ≤ t ∧ t < 107
    · obtain ⟨k, j, rfl, hk, hj⟩ : ∃ k j, t = 3 + k * 13 + j ∧ k < 8 ∧ j < 13 := ⟨(t - 3) / 13, (t - 3) % 13, by omega, by omega, by omega⟩
      rw [vCell_slot hk hj] at ht
      refine ⟨k, j, rfl, hk, ?_⟩
      by_cases h12 : j < 12
      · exact slotCell_string h12 (Option.some.inj ht)
      · obtain rfl : j = 12 := by omega
        have e : kv k = .string x := Option.some.inj ht
        rcases h.lists k hk with ⟨e2, _⟩ | ⟨b', o', c', e2, _⟩ <;> rw [e2] at e <;> cases e
    · exfalso
      unfold vCell at ht
      by_cases e0 : t = 0
      · rw [if_pos e0] at ht; cases ht
      rw [if_neg e0] at ht
      by_cases e1 : t = 1
      · rw [if_pos e1] at ht; cases ht
      rw [if_neg e1] at ht
      by_cases e2 : t = 2
      · rw [if_pos e2] at ht; cases ht
      rw [if_neg e2, if_pos (by omega)] at ht
      cases ht
  obtain ⟨k, j, e, hk, hj⟩ := pos h1
  obtain ⟨k', j', e', hk', hj'⟩ := pos h2
  have hkk : k = k' ∧ (j = 1 ∨ j = 10) := by omega
  obtain ⟨rfl, hj | hj⟩ := hkk
  · subst hj
    obtain rfl : o = 3 + k * 13 + 0 := by omega
    rw [h.field hk (by omega)] at h0
    cases h0
  · subst hj
    have e3 : o + 3 = 3 + k * 13 + 12 := by omega
    rw [e3, h.field hk (by omega)] at h3
    have e4 : kv k = .int .i64 d := Option.some.inj h3
    rcases h.lists k hk with ⟨e2, _⟩ | ⟨b', o', c', e2, _⟩ <;> rw [e2] at e4 <;> cases e4
theorem AtV.not_cells (h : AtV w g gm gv kv l) {b : Nat} (hb : feetW g gm gv b) (hne : b ≠ g) {cs : Array Value} {t : TypeId} {fr : Nat × Nat} (hc : w.heap[b]? = some (.cells cs t fr)) : False := by
  rcases hb with hb | hb | ⟨k, j, hk, hj, hb⟩
  · exact hne hb
  · subst hb
    obtain ⟨es, cl, h2⟩ := h.marks.cells
    rw [h2] at hc; cases hc
  · obtain ⟨es, cl, h2⟩ := (h.mapAt hk hj hb).cells
    rw [h2] at hc; cases hc
theorem AtV.only (h2 : AtV w g2 gm2 gv2 kv2 l2) (h1 : AtV w g gm gv kv l) (ha : ∀ b, feetW g gm gv b → ¬ feetW g2 gm2 gv2 b) (ho : Only (feetW g gm gv) w w') : AtV w' g2 gm2 gv2 kv2 l2 := by
  have keep : ∀ b, feetW g2 gm2 gv2 b → b < w.heap.size → w'.heap[b]? = w.heap[b]? := fun b hb hlt => ho.block b hlt fun hf => ha b hf hb
  refine ⟨?_, fun k j hk hj => (h2.maps k j hk hj).carry fun b hb hlt => keep b (.inr (.inr ⟨k, j, hk, hj, hb⟩)) hlt, h2.marks.carry (keep gm2 (.inr (.inl rfl)) h2.marks.lt), fun k hk => ?_, h2.apart, h2.ok⟩
  · exact (keep g2 (.inl rfl) h2.blk.lt).trans h2.blk
  · have hL := h2.lists k hk
    rcases hL with h | ⟨b, o, c, e1, e2, e3⟩
    · exact .inl h
    · refine .inr ⟨b, o, c, e1, e2, ?_⟩
      rcases e3 with e3 | ⟨b', o', e, h4, h5⟩
      · exact .inl e3
      · cases e
        have hlen : (l2.slots k).kept.list = [] ∨ 3 ≤ (l2.slots k).kept.list.length := by
          rcases h2.ok.kept k with ⟨_, e⟩ | ⟨_, _, _, e⟩
          · left; rw [e]; rfl
          · right
            obtain ⟨q, hq, hq3, _⟩ := Vl.quorum_some h2.ok
            omega
        rcases hlen with hlen | hlen
        · left; rw [hlen]; rfl
        · refine .inr ⟨b, o, rfl, Nat.lt_of_lt_of_le h4 ho.size, fun j hj => ?_⟩
          rw [← h5 j hj]
          refine World.cell?_of_block (ho.block b h4 fun hf => ?_)
          generalize hLL : (l2.slots k).kept.list = L at h5 hlen
          match L, hlen with
          | s0 :: s1 :: s2 :: L', _ =>
            have c0 : w.cell? ⟨b, o + 0, none⟩ = some (.int .i64 s0.frm) := h5 0 (by simp)
            have c1 : w.cell? ⟨b, o + 1, none⟩ = some (.string s0.body) := h5 1 (by simp; omega)
            have c2 : w.cell? ⟨b, o + 2, none⟩ = some (.string s0.sig) := h5 2 (by simp; omega)
            have c3 : w.cell? ⟨b, o + 3, none⟩ = some (.int .i64 s1.frm) := h5 3 (by simp)
            by_cases hbg : b = g
            · subst hbg
              exact h1.no_list c0 c1 c2 c3
            · have hcells : ∃ cs t fr, w.heap[b]? = some (.cells cs t fr) := by
                cases hw : w.heap[b]? with
                | none => simp [World.cell?, hw] at c0
                | some ob =>
                  cases ob with
                  | cells cs t fr => exact ⟨cs, t, fr, rfl⟩
                  | _ => simp [World.cell?, hw] at c0
              obtain ⟨cs, t, fr, hcs⟩ := hcells
              exact h1.not_cells hf hbg hcs
end
/-- Two logs that the law made. -/
def V2 (w0 w : World) (g : Nat) (l : Vl) (g2 : Nat) (l2 : Vl) : Prop :=
  ∃ gm gv kv gm2 gv2 kv2, AtV w g gm gv kv l ∧ AtV w g2 gm2 gv2 kv2 l2 ∧ (∀ b, feetW g gm gv b → w0.heap.size ≤ b) ∧ (∀ b, feetW g2 gm2 gv2 b → w0.heap.size ≤ b) ∧ Below w0.heap.size w0 w ∧ ∀ b, feetW g gm gv b → ¬ feetW g2 gm2 gv2 b
section
variable {w0 w w' : World} {g g2 : Nat} {l l2 : Vl}
theorem V2.swap (h : V2 w0 w g l g2 l2) : V2 w0 w g2 l2 g l := by
  obtain ⟨gm, gv, kv, gm2, gv2, kv2, h1, h2, h3, h4, h5, h6⟩ := h
  exact ⟨gm2, gv2, kv2, gm, gv, kv, h2, h1, h4, h3, h5, fun b hb hb' => h6 b hb' hb⟩
theorem V2.next (h : V2 w0 w g l g2 l2) (hb : Below w.heap.size w w') : V2 w0 w' g l g2 l2 := by
  obtain ⟨gm, gv, kv, gm2, gv2, kv2, h1, h2, h3, h4, h5, h6⟩ := h
  exact ⟨gm, gv, kv, gm2, gv2, kv2, h1.below hb, h2.below hb, h3, h4, h5.trans (hb.mono h5.size), h6⟩
theorem V2.vw (h : V2 w0 w g l g2 l2) : Vw w0 w g l := by
  obtain ⟨gm, gv, kv, gm2, gv2, kv2, h1, h2, h3, h4, h5, h6⟩ := h
  exact ⟨gm, gv, kv, h1, h3 g (.inl rfl), h3 gm (.inr (.inl rfl)), fun k j b hk hj hb => h3 b (.inr (.inr ⟨k, j, hk, hj, hb⟩)), h5⟩
theorem feet_lt {gm : Nat} {gv : Nat → Nat → Option Nat} {kv : Nat → Value} (h : AtV w g gm gv kv l) {b : Nat} (hb : feetW g gm gv b) : b < w.heap.size := by
  rcases hb with rfl | rfl | ⟨k, j, hk, hj, hb⟩
  · exact h.blk.lt
  · exact h.marks.lt
  · exact (h.mapAt hk hj hb).lt
theorem V2.turn (h : V2 w0 w g l g2 l2) {C : Ending → World → Prop} {f : Nat} {args : Array Value} {r : Vl}
    (hc : ∀ gm gv kv, AtV w g gm gv kv l → Calls Try.prog f args w fun e w' => C e w' ∧ VoteTo w w' g gm gv r ∧ Only (feetW g gm gv) w w') : Calls Try.prog f args w fun e w' => C e w' ∧ V2 w0 w' g r g2 l2 := by
  obtain ⟨gm, gv, kv, gm2, gv2, kv2, h1, h2, h3, h4, h5, h6⟩ := h
  refine (hc gm gv kv h1).mono fun e w' ⟨a, ⟨gv', kv', b1, b2⟩, c⟩ => ⟨a, gm, gv', kv', gm2, gv2, kv2, b1, h2.only h1 h6 c, fun b hb => ?_, h4, h5.trans (c.below h5.size h3), fun b hb hb2 => ?_⟩
  · rcases hb with rfl | rfl | ⟨k, j, hk, hj, hb⟩
    · exact h3 _ (.inl rfl)
    · exact h3 _ (.inr (.inl rfl))
    · rcases b2 k j b hk hj hb with h | h
      · exact h3 b (.inr (.inr ⟨k, j, hk, hj, h⟩))
      · exact Nat.le_trans h5.size h
  · rcases hb with rfl | rfl | ⟨k, j, hk, hj, hb⟩
    · exact h6 _ (.inl rfl) hb2
    · exact h6 _ (.inr (.inl rfl)) hb2
    · rcases b2 k j b hk hj hb with h | h
      · exact h6 b (.inr (.inr ⟨k, j, hk, hj, h⟩)) hb2
      · have := feet_lt h2 hb2
        omega
theorem V2.made (h : Vw w0 w g l) {n : Int} (hn : n = 4 ∨ n = 7 ∨ n = 10 ∨ n = 13) : Calls Try.prog 13 #[.int .i64 n] w fun e w' => ∃ g2, e = .returned (.tuple #[.pointer (some ⟨g2, 0, none⟩), .int .i64 0]) ∧ V2 w0 w' g l g2 (Vl.fresh n) := by
  obtain ⟨gm, gv, kv, h1, h2, h3, h4, h5⟩ := h
  refine (new_calls w n hn).mono fun e w' ⟨g2, gm2, a1, a2, a3, a4, a5⟩ => ⟨g2, a1, gm, gv, kv, gm2, _, _, h1.below a5, a2, fun b hb => ?_, fun b hb => ?_, h5.trans (a5.mono h5.size), fun b hb hb2 => ?_⟩
  · rcases hb with rfl | rfl | ⟨k, j, hk, hj, hb⟩
    · exact h2
    · exact h3
    · exact h4 k j b hk hj hb
  · rcases hb with rfl | rfl | ⟨k, j, hk, hj, hb⟩
    · exact Nat.le_trans h5.size a3
    · exact Nat.le_trans h5.size a4
    · cases hb
  · have hlt := feet_lt h1 hb
    rcases hb2 with rfl | rfl | ⟨k, j, hk, hj, hb2⟩
    · omega
    · omega
    · cases hb2
def Turned2 (w0 : World) (g : Nat) (r : Vl × Int) (g2 : Nat) (l2 : Vl) (e : Ending) (w' : World) : Prop := e = .returned (.int .i64 r.2) ∧ V2 w0 w' g r.1 g2 l2
theorem V2.done (h : V2 w0 w g l g2 l2) (a : VAct) : Calls Try.prog 16 #[.pointer (some ⟨g, 0, none⟩), .agg (acells a).toArray] w (Turned2 w0 g (l.act a) g2 l2) :=
  (h.turn (C := fun e _ => e = .returned (.int .i64 (l.act a).2)) (r := (l.act a).1) fun _ _ _ h1 => done_any h1 a).mono fun _ _ h => h
theorem V2.propose (h : V2 w0 w g l g2 l2) (view seq : Int) (d b : ByteArray) : Calls Try.prog 15 #[.pointer (some ⟨g, 0, none⟩), .int .i64 view, .int .i64 seq, .string d, .string b] w (Turned2 w0 g (l.propose view seq d b) g2 l2) :=
  (h.turn (C := fun e _ => e = .returned (.int .i64 (l.propose view seq d b).2)) (r := (l.propose view seq d b).1) fun _ gv _ h1 => (propose_calls h1 view seq d b).mono fun _ _ ⟨a1, ⟨kv', a2⟩, a3⟩ => ⟨a1, ⟨gv, kv', a2, fun _ _ _ _ _ h => .inl h⟩, a3.mono fun _ h => .inl h⟩).mono fun _ _ h => h
end
end Go.Proofs.Ytedndjbhgbdpoaa
