/- A higher view: the plain law; the reference's comparison of what is kept. -/
import Derived.Test.YtedndjbhgbdpoaaVlD
namespace Go.Proofs.Ytedndjbhgbdpoaa
open Go.RowKit
namespace Vl
theorem enter_eq {l : Vl} {view : Int} (h1 : l.view < view) (h2 : view ≤ 1048576) : l.enter view = (l.entering view 8, 0) := by
  unfold enter
  rw [if_neg (by omega)]; rfl
theorem enter_bad {l : Vl} {view : Int} (h : view ≤ l.view ∨ 1048576 < view) : l.enter view = (l, 1) := by
  unfold enter
  rw [if_pos h]
theorem entering_slot (l : Vl) (view s : Int) : (l.entering view 8).slot s = { Slot.none with kept := (l.slot s).kept } := by
  unfold entering Vl.slot
  simp only
  rw [if_pos (ix_lt s)]
theorem entering_kept (l : Vl) (view : Int) : (l.entering view 8).kept = l.kept := by
  unfold kept
  refine congrArg (fun f => List.filterMap f (List.range 8)) (funext fun i => ?_)
  rw [entering_slot]; rfl
theorem entering_proposal (l : Vl) (view s : Int) : ((l.entering view 8).proposal s).2.2 = false := by
  unfold proposal
  rw [entering_slot]
  split <;> rfl
theorem entering_voted (l : Vl) (view k s f : Int) : (l.entering view 8).voted k s f = none := by
  unfold voted
  rw [entering_slot]
  split <;> rfl
theorem entering_agree (l : Vl) (view s : Int) (j : Nat) : (l.entering view 8).agree s j = [] := by
  unfold agree
  rw [entering_slot]
  unfold Slot.agree
  rw [List.filterMap_eq_nil_iff]
  intro i _
  rfl
theorem entering_prepared {l : Vl} (ho : l.Ok) (view s : Int) : (l.entering view 8).prepared s = false := by
  unfold prepared
  rw [decide_eq_false]
  rintro ⟨_, h⟩
  rw [entering_agree] at h
  have hq : (l.entering view 8).quorum = l.quorum := rfl
  obtain ⟨q, hq2, hq3, _⟩ := quorum_some ho
  rw [hq, hq2] at h
  simp at h
  omega
theorem entering_committed {l : Vl} (ho : l.Ok) (view s : Int) : (l.entering view 8).committed s = false := by
  unfold committed
  rw [entering_prepared ho, Bool.false_and]
end Vl
/-- All cells of a proof that is told. -/
theorem KeptAt.cells {w0 w : World} {A : Option Addr} {n c : Nat} {L : List Kb} (h : KeptAt w0 w (.slice A n c) L) {i : Nat} (hi : i < L.length) :
    ∃ b o bl ol cl, A = some ⟨b, o, none⟩ ∧ b < w.heap.size ∧ bl < w.heap.size ∧ (w.cell? ⟨b, o + i * 8, none⟩ = some (.int .i64 (L.getD i Kb.none).kind) ∧ w.cell? ⟨b, o + i * 8 + 1, none⟩ = some (.int .i64 (L.getD i Kb.none).view) ∧ w.cell? ⟨b, o + i * 8 + 2, none⟩ = some (.int .i64 (L.getD i Kb.none).seq) ∧
      w.cell? ⟨b, o + i * 8 + 3, none⟩ = some (.int .i64 0) ∧ w.cell? ⟨b, o + i * 8 + 4, none⟩ = some (.int .i64 0) ∧ w.cell? ⟨b, o + i * 8 + 5, none⟩ = some (.string (L.getD i Kb.none).digest) ∧ w.cell? ⟨b, o + i * 8 + 6, none⟩ = some (.string (L.getD i Kb.none).text) ∧ w.cell? ⟨b, o + i * 8 + 7, none⟩ = some (.slice (some ⟨bl, ol, none⟩) (L.getD i Kb.none).list.length cl)) ∧
      Row w (some ⟨bl, ol, none⟩) ((L.getD i Kb.none).list.length * 3) fun j => (scells (L.getD i Kb.none).list).getD j (.bool false) := by
  obtain ⟨bk, vs, h1, h2, h3, h4⟩ := h
  obtain ⟨hl, A', c', hv, hnc, _, hrow⟩ := h2
  cases hv
  obtain ⟨k, hk⟩ : ∃ k, L[i]? = some k := ⟨_, List.getElem?_eq_getElem hi⟩
  obtain ⟨u, hu⟩ : ∃ u, vs[i]? = some u := ⟨_, List.getElem?_eq_getElem (by omega)⟩
  have hkd : L.getD i Kb.none = k := by rw [List.getD_eq_getElem?_getD, hk]; rfl
  rw [hkd]
  obtain ⟨bl, ol, cl, e1, e2, e3, e4, e5⟩ := h4 i k u hk hu
  rcases hrow with ⟨_, hz⟩ | ⟨g, off, hb, rfl, hlt, _, hcells⟩
  · omega
  · have each : ∀ j, j < 8 → w.cell? ⟨g, off + i * 8 + j, none⟩ = (kcell k u)[j]? := fun j hj => by
      rw [Nat.add_assoc, hcells (i * 8 + j) (by omega), kcells_at L vs i j k u hk hu hj]
    refine ⟨g, off, bl, ol, cl, rfl, hlt, e3, ⟨each 0 (by omega), each 1 (by omega), each 2 (by omega), each 3 (by omega), each 4 (by omega), each 5 (by omega), each 6 (by omega), ?_⟩, .inr ⟨bl, ol, rfl, e3, e5⟩⟩
    rw [each 7 (by omega), ← e1]; rfl
theorem scells_get (L : List Sg) {i : Nat} (hi : i < L.length) : (scells L).getD (i * 3) (.bool false) = .int .i64 (L.getD i Sg.none).frm ∧ (scells L).getD (i * 3 + 1) (.bool false) = .string (L.getD i Sg.none).body ∧ (scells L).getD (i * 3 + 2) (.bool false) = .string (L.getD i Sg.none).sig := by
  induction L generalizing i with
  | nil => simp at hi
  | cons s L ih =>
    have e : scells (s :: L) = [.int .i64 s.frm, .string s.body, .string s.sig] ++ scells L := rfl
    rw [e]
    cases i with
    | zero => exact ⟨rfl, rfl, rfl⟩
    | succ i =>
      have := ih (i := i) (by simpa using hi)
      rw [show (i + 1) * 3 = i * 3 + 3 from by omega]
      simp only [List.getD_eq_getElem?_getD] at *
      rw [List.getElem?_append_right (by simp), List.getElem?_append_right (by simp), List.getElem?_append_right (by simp), List.getElem?_cons_succ]
      simpa using this
theorem kept_short {l : Vl} (ho : l.Ok) {i : Nat} (hi : i < l.kept.length) : ((l.kept.getD i Kb.none).list.length : Int) = l.quorum ∧ (l.kept.getD i Kb.none).list.length ≤ 13 := by
  have hmem : l.kept.getD i Kb.none ∈ l.kept := by
    rw [List.getD_eq_getElem?_getD, List.getElem?_eq_getElem hi]
    exact List.getElem_mem hi
  unfold Vl.kept at hmem
  obtain ⟨j, _, hj⟩ := List.mem_filterMap.1 hmem
  simp only at hj
  split at hj
  · rename_i hk
    rcases ho.kept (ix (l.low + 1 + (j : Int))) with h | h
    · exact absurd h.1 hk
    · have e : (l.slot (l.low + 1 + (j : Int))).kept = (l.slots (ix (l.low + 1 + (j : Int)))).kept := rfl
      have hq : l.quorum ≤ 13 := by
        have := ho.n
        unfold Vl.quorum
        omega
      have h4 := h.2.2.2
      rw [← e] at h4
      have hj' := Option.some.inj hj
      unfold Vl.kept
      rw [← hj']
      exact ⟨h4, by omega⟩
  · cases hj
theorem block_lt {w : World} {b o : Nat} {v : Value} (h : w.cell? ⟨b, o, none⟩ = some v) : b < w.heap.size := by
  rcases Nat.lt_or_ge b w.heap.size with h1 | h1
  · exact h1
  · have : w.heap[b]? = none := Array.getElem?_eq_none h1
    simp [World.cell?, this] at h
/-- A row of signed messages. -/
def SRow (w : World) (A : Option Addr) (L : List Sg) : Prop := Row w A (L.length * 3) fun j => (scells L).getD j (.bool false)
theorem SRow.cells {w : World} {A : Option Addr} {L : List Sg} (h : SRow w A L) {i : Nat} (hi : i < L.length) : ∃ b o, A = some ⟨b, o, none⟩ ∧ ∀ w', Below w.heap.size w w' → w'.cell? ⟨b, o + i * 3, none⟩ = some (.int .i64 (L.getD i Sg.none).frm) ∧ w'.cell? ⟨b, o + i * 3 + 1, none⟩ = some (.string (L.getD i Sg.none).body) ∧ w'.cell? ⟨b, o + i * 3 + 2, none⟩ = some (.string (L.getD i Sg.none).sig) := by
  obtain ⟨b, o, e, _⟩ := Row.at_ h (k := i * 3) (by omega)
  obtain ⟨g1, g2, g3⟩ := scells_get L hi
  refine ⟨b, o, e, fun w' hb => ⟨?_, ?_, ?_⟩⟩
  · obtain ⟨b', o', e', h1, h2⟩ := Row.at_ h (k := i * 3) (by omega)
    rw [e] at e'; cases e'
    rw [← g1]; exact (below_cell hb h1).trans h2
  · obtain ⟨b', o', e', h1, h2⟩ := Row.at_ h (k := i * 3 + 1) (by omega)
    rw [e] at e'; cases e'
    rw [← g2, Nat.add_assoc]; exact (below_cell hb h1).trans h2
  · obtain ⟨b', o', e', h1, h2⟩ := Row.at_ h (k := i * 3 + 2) (by omega)
    rw [e] at e'; cases e'
    rw [← g3, Nat.add_assoc]; exact (below_cell hb h1).trans h2
theorem sameAll_calls {w : World} {A B : Option Addr} {c1 c2 n : Nat} {L : List Sg} (hA : SRow w A L) (hB : SRow w B L) (hn : L.length = n) (hn2 : n ≤ 1000) :
    Calls Try.prog 43 #[.slice A n c1, .slice B n c2] w fun e w' => e = .returned (.bool true) ∧ Below w.heap.size w w' := by
  have HN := Lib.hid hn
  have HA := Lib.hid hA
  have HB := Lib.hid hB
  clear hA hB hn
  go_enter Try.func43, Try.ntmps43
  go_wp2
  go_loopg [5] (n + 1) (fun gk s5 wr => ∃ i : Nat, gk = n + 1 - i ∧ i ≤ n ∧ s5 = .int .i64 (i : Int) ∧ Hid (Below w.heap.size w wr))
  case atStart => exact ⟨0, rfl, Nat.zero_le _, rfl, Lib.hid (Below.refl _ _)⟩
  case round =>
    obtain ⟨i, rfl, hi, rfl, hb⟩ := hrel
    have i0 : (0 : Int) ≤ (i : Int) := by omega
    by_cases hlt : i < n
    · have hltI : (i : Int) < (n : Int) := by omega
      obtain ⟨b1, o1, rfl, k1⟩ := HA.out.cells (i := i) (by rw [HN.out]; exact hlt)
      obtain ⟨b2, o2, rfl, k2⟩ := HB.out.cells (i := i) (by rw [HN.out]; exact hlt)
      obtain ⟨x0, x1, x2⟩ := k1 wr hb.out
      obtain ⟨y0, y1, y2⟩ := k2 wr hb.out
      clear k1 k2
      generalize L.getD i Sg.none = sg at x0 x1 x2 y0 y1 y2
      obtain ⟨fr, bo, si⟩ := sg
      simp only at x0 x1 x2 y0 y1 y2
      go_upto_region 6 with (fail)
      go_quiet (fail)
      go_wp2
      go_roundg (n + 1 - (i + 1))
      case measure => omega
      case rel => exact ⟨i + 1, rfl, by omega, by go_num, Lib.hid (below_draw hb.out _)⟩
    · obtain rfl : i = n := by omega
      go_wp2
      go_ret
      exact ⟨rfl, hb.out⟩
theorem same_calls {w : World} {A B : Option Addr} {c1 c2 n : Nat} {L : List Sg} (hA : SRow w A L) (hB : SRow w B L) (hn : L.length = n) (hn2 : n ≤ 1000) (kd kw kq : Int) (kg kt : ByteArray) :
    Calls Try.prog 30 #[.agg #[.int .i64 kd, .int .i64 kw, .int .i64 kq, .int .i64 0, .int .i64 0, .string kg, .string kt, .slice A n c1], .agg #[.int .i64 kd, .int .i64 kw, .int .i64 kq, .int .i64 0, .int .i64 0, .string kg, .string kt, .slice B n c2]] w fun e w' => e = .returned (.bool true) ∧ Below w.heap.size w w' := by
  have HS := Lib.hid (fun wx (hb : Below w.heap.size w wx) => sameAll_calls (w := wx) (A := A) (B := B) (c1 := c1) (c2 := c2) (Row.below hA hb) (Row.below hB hb) hn hn2)
  have HB : Hid (∀ o1 o2, Below w.heap.size w ((w.alloc o1).alloc o2)) := Lib.hid fun o1 o2 => ((Below.refl _ _).alloc (Nat.le_refl _) _).alloc (by simp) _
  clear hA hB hn
  go_enter Try.func30, Try.ntmps30
  go_wp2_with (first
    | (go_at_call 43; (with_reducible refine (HS.out _ (HB.out _ _)).mono ?_); rintro e w2 ⟨rfl, hh⟩))
  go_ret
  exact ⟨rfl, below_next (HB.out _ _) hh⟩
end Go.Proofs.Ytedndjbhgbdpoaa
