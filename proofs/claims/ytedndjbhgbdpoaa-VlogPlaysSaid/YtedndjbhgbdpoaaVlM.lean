/- A log of votes in memory. -/
import Derived.Test.YtedndjbhgbdpoaaRows
import Derived.Test.YtedndjbhgbdpoaaMaps
import Derived.Test.YtedndjbhgbdpoaaBlk
import Derived.Test.YtedndjbhgbdpoaaOwnK
import Derived.WalkKit
import Derived.WalkLawsBesides
import Derived.Lib.Hide
import Derived.Outline
import Derived.Deep.QuietTactic
import Derived.BigQuiet
import Derived.StillTailTactics
import Derived.Deep.Cut
import Derived.Deep.CutRange
import Derived.Deep.LoopGhost
import Derived.Deep.RegionHeld3
namespace Go.Proofs.Ytedndjbhgbdpoaa
open Go.RowKit
def Vt.val (v : Vt) : Value := .agg #[.int .i64 v.m.frm, .string v.m.body, .string v.m.sig, .string v.d]
def Mk.val (m : Mk) : Value := .agg #[.int .i64 m.m.frm, .string m.m.body, .string m.m.sig, .int .i64 m.seq, .string m.root]
def scells (L : List Sg) : List Value := L.flatMap fun s => [.int .i64 s.frm, .string s.body, .string s.sig]
theorem scells_length (L : List Sg) : (scells L).length = L.length * 3 := by
  induction L with
  | nil => rfl
  | cons p l ih => unfold scells at *; rw [List.flatMap_cons, List.length_append, ih, List.length_cons]; simp; omega
theorem scells_append (L M : List Sg) : scells (L ++ M) = scells L ++ scells M := by unfold scells; rw [List.flatMap_append]
theorem scells_one : ∀ {L : List Sg}, ∀ u ∈ scells L, u.oneCell' = true := by
  intro L u hu
  unfold scells at hu
  obtain ⟨s, _, h⟩ := List.mem_flatMap.1 hu
  simp only [List.mem_cons, List.not_mem_nil, or_false] at h
  rcases h with rfl | rfl | rfl <;> rfl
/-- The cells of a slot: its fields, the maps of its votes, the slice of what is kept. -/
def slotCell (s : Slot) (gv : Nat → Option Nat) (kv : Value) : Nat → Value
  | 0 => .bool s.has
  | 1 => .string s.digest
  | 2 => .string s.batch
  | 3 => .map (gv 0)
  | 4 => .map (gv 1)
  | 5 => .int .i64 s.kept.kind
  | 6 => .int .i64 s.kept.view
  | 7 => .int .i64 s.kept.seq
  | 8 => .int .i64 0
  | 9 => .int .i64 0
  | 10 => .string s.kept.digest
  | 11 => .string s.kept.text
  | _ => kv
def vCell (l : Vl) (gv : Nat → Nat → Option Nat) (kv : Nat → Value) (gm : Nat) (j : Nat) : Value :=
  if j = 0 then .int .i64 l.n else if j = 1 then .int .i64 l.view else if j = 2 then .int .i64 l.low else if j = 107 then .map (some gm)
  else slotCell (l.slots ((j - 3) / 13)) (gv ((j - 3) / 13)) (kv ((j - 3) / 13)) ((j - 3) % 13)
def vcells (l : Vl) (gv : Nat → Nat → Option Nat) (kv : Nat → Value) (gm : Nat) : List Value := (List.range 108).map (vCell l gv kv gm)
theorem vcells_at (l : Vl) (gv : Nat → Nat → Option Nat) (kv : Nat → Value) (gm : Nat) {j : Nat} (h : j < 108) : (vcells l gv kv gm)[j]? = some (vCell l gv kv gm j) := by
  unfold vcells
  rw [List.getElem?_map, List.getElem?_range h]; rfl
theorem vcells_set {l l' : Vl} {gv gv' : Nat → Nat → Option Nat} {kv kv' : Nat → Value} {gm : Nat} {j : Nat} {v : Value} (hj : j < 108) (h1 : vCell l' gv' kv' gm j = v) (h2 : ∀ i, i < 108 → i ≠ j → vCell l' gv' kv' gm i = vCell l gv kv gm i) :
    (vcells l gv kv gm).set j v = vcells l' gv' kv' gm := by
  apply List.ext_getElem?
  intro i
  rw [List.getElem?_set]
  by_cases e : j = i
  · subst e
    rw [if_pos rfl, vcells_at _ _ _ _ hj, h1, if_pos (by simpa [vcells] using hj)]
  · rw [if_neg e]
    by_cases hi : i < 108
    · rw [vcells_at _ _ _ _ hi, vcells_at _ _ _ _ hi, h2 i hi (fun e2 => e e2.symm)]
    · rw [List.getElem?_eq_none (by simp [vcells]; omega), List.getElem?_eq_none (by simp [vcells]; omega)]
/-- A map that may be nil. -/
def MapO (w : World) (o : Option Nat) (f : Int → Option Value) : Prop :=
  match o with
  | none => ∀ i, f i = none
  | some b => MapAt Try.prog 3 w b f
def votesOf (s : Slot) (j : Nat) : Int → Option Value := fun i => (s.votes j i).map Vt.val
def marksOf (l : Vl) : Int → Option Value := fun i => (l.marks i).map Mk.val
/-- The list of a proof that is kept. -/
def ListAt (w : World) (g : Nat) (v : Value) (L : List Sg) : Prop := (v = .slice none 0 0 ∧ L = []) ∨ ∃ b o c, v = .slice (some ⟨b, o, none⟩) L.length c ∧ b ≠ g ∧ Row w (some ⟨b, o, none⟩) (L.length * 3) fun j => (scells L).getD j (.bool false)
/-- Block g is the log l; gm, gv, kv: where its maps and lists lie. -/
structure AtV (w : World) (g gm : Nat) (gv : Nat → Nat → Option Nat) (kv : Nat → Value) (l : Vl) : Prop where
  blk : Blk w g 82 (vcells l gv kv gm).toArray
  maps : ∀ k j, k < 8 → j < 2 → MapO w (gv k j) (votesOf (l.slots k) j)
  marks : MapAt Try.prog 3 w gm (marksOf l)
  lists : ∀ k, k < 8 → ListAt w g (kv k) (l.slots k).kept.list
  apart : ∀ k j b, k < 8 → j < 2 → gv k j = some b → b ≠ gm ∧ ∀ k' j', k' < 8 → j' < 2 → gv k' j' = some b → k' = k ∧ j' = j
  ok : l.Ok
section
variable {w w' : World} {g gm : Nat} {gv : Nat → Nat → Option Nat} {kv : Nat → Value} {l : Vl}
theorem MapO.carry {o : Option Nat} {f : Int → Option Value} (h : MapO w o f) (hb : ∀ b, o = some b → b < w.heap.size → w'.heap[b]? = w.heap[b]?) : MapO w' o f := by
  cases o with
  | none => exact h
  | some b =>
    have h' : MapAt Try.prog 3 w b f := h
    exact h'.carry (hb b rfl h'.lt)
theorem ListAt.carry {v : Value} {L : List Sg} (h : ListAt w g v L) (hb : ∀ b, b ≠ g → b < w.heap.size → (∃ cs t fr, w.heap[b]? = some (.cells cs t fr)) → w'.heap[b]? = w.heap[b]?) (hs : w.heap.size ≤ w'.heap.size) : ListAt w' g v L := by
  rcases h with h | ⟨b, o, c, h1, h2, h3⟩
  · exact .inl h
  · refine .inr ⟨b, o, c, h1, h2, ?_⟩
    rcases h3 with h3 | ⟨b', o', e, h4, h5⟩
    · exact .inl h3
    · cases e
      by_cases hz : L.length * 3 = 0
      · exact .inl hz
      · have hc := h5 0 (by omega)
        have hcells : ∃ cs t fr, w.heap[b]? = some (.cells cs t fr) := by
          cases hw : w.heap[b]? with
          | none => simp [World.cell?, hw] at hc
          | some ob =>
            cases ob with
            | cells cs t fr => exact ⟨cs, t, fr, rfl⟩
            | _ => simp [World.cell?, hw] at hc
        exact .inr ⟨b, o, rfl, Nat.lt_of_lt_of_le h4 hs, fun j hj => by rw [← h5 j hj]; exact World.cell?_of_block (hb b h2 h4 hcells)⟩
theorem AtV.below (h : AtV w g gm gv kv l) (hb : Below w.heap.size w w') : AtV w' g gm gv kv l :=
  ⟨h.blk.below hb h.blk.lt, fun k j hk hj => (h.maps k j hk hj).carry fun b _ hlt => hb.block b hlt, h.marks.carry (hb.block gm h.marks.lt), fun k hk => (h.lists k hk).carry (fun b _ hlt _ => hb.block b hlt) hb.size, h.apart, h.ok⟩
theorem AtV.drewN (h : AtV w g gm gv kv l) (n : Nat) : AtV (w.drewN n) g gm gv kv l := h.below (below_self _ n)
theorem AtV.cell (h : AtV w g gm gv kv l) {j : Nat} (hj : j < 108) : w.cell? ⟨g, j, none⟩ = some (vCell l gv kv gm j) := by
  rw [h.blk.cell, List.getElem?_toArray, vcells_at _ _ _ _ hj]
theorem vCell_slot {k j : Nat} (hk : k < 8) (hj : j < 13) : vCell l gv kv gm (3 + k * 13 + j) = slotCell (l.slots k) (gv k) (kv k) j := by
  unfold vCell
  rw [if_neg (by omega), if_neg (by omega), if_neg (by omega), if_neg (by omega), show (3 + k * 13 + j - 3) / 13 = k from by omega, show (3 + k * 13 + j - 3) % 13 = j from by omega]
theorem AtV.field (h : AtV w g gm gv kv l) {k j : Nat} (hk : k < 8) (hj : j < 13) : w.cell? ⟨g, 3 + k * 13 + j, none⟩ = some (slotCell (l.slots k) (gv k) (kv k) j) := by
  rw [h.cell (by omega), vCell_slot hk hj]
theorem AtV.head (h : AtV w g gm gv kv l) : w.cell? ⟨g, 0, none⟩ = some (.int .i64 l.n) ∧ w.cell? ⟨g, 1, none⟩ = some (.int .i64 l.view) ∧ w.cell? ⟨g, 2, none⟩ = some (.int .i64 l.low) ∧ w.cell? ⟨g, 107, none⟩ = some (.map (some gm)) :=
  ⟨h.cell (by omega), h.cell (by omega), h.cell (by omega), h.cell (by omega)⟩
/-- The log's own block is written: maps and lists stay. -/
theorem AtV.wrote (h : AtV w g gm gv kv l) {l' : Vl} {kv' : Nat → Value} (hblk : Blk w' g 82 (vcells l' gv kv' gm).toArray) (hb : ∀ b, b ≠ g → b < w.heap.size → w'.heap[b]? = w.heap[b]?)
    (hv : ∀ k j, k < 8 → j < 2 → gv k j ≠ none → votesOf (l'.slots k) j = votesOf (l.slots k) j) (hv0 : ∀ k j, k < 8 → j < 2 → gv k j = none → ∀ i, votesOf (l'.slots k) j i = none) (hm : marksOf l' = marksOf l) (hl : ∀ k, k < 8 → ListAt w' g (kv' k) (l'.slots k).kept.list) (hok : l'.Ok) : AtV w' g gm gv kv' l' := by
  obtain ⟨es, cl, hgm⟩ := h.marks.cells
  have hne : ∀ b es cl, w.heap[b]? = some (.map es cl) → b ≠ g := fun b es cl hb e => by
    have := h.blk
    unfold Blk at this
    rw [e, this] at hb; cases hb
  refine ⟨hblk, fun k j hk hj => ?_, ?_, hl, h.apart, hok⟩
  · have := h.maps k j hk hj
    cases hgv : gv k j with
    | none => exact hv0 k j hk hj hgv
    | some b =>
      rw [hgv] at this
      have h' : MapAt Try.prog 3 w b (votesOf (l.slots k) j) := this
      rw [hv k j hk hj (by rw [hgv]; exact Option.some_ne_none b)]
      obtain ⟨es', cl', hb'⟩ := h'.cells
      exact h'.carry (hb b (hne b es' cl' hb') h'.lt)
  · rw [hm]
    exact h.marks.carry (hb gm (hne gm es cl hgm) h.marks.lt)
end
end Go.Proofs.Ytedndjbhgbdpoaa
