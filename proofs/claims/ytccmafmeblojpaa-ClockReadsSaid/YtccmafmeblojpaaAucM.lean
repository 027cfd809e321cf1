/- An auction in memory, and the contracts of the methods that only tell. -/
import Derived.Test.YtccmafmeblojpaaRows
import Derived.Test.YtccmafmeblojpaaAuc
import Derived.Test.YtccmafmeblojpaaOwn
import Derived.Test.YtccmafmeblojpaaBlk
import Derived.WalkKit
import Derived.WalkLawsBesides
import Derived.Lib.Hide
import Derived.Outline
import Derived.Deep.QuietTactic
import Derived.BigQuiet
import Derived.StillTailTactics
import Derived.Deep.Cut
import Derived.Deep.LoopGhost
import Derived.Deep.RegionHeld3
namespace Go.Proofs.Ytccmafmeblojpaa
open Go.RowKit
/-- Bidders as cells. -/
def bcells (l : List (Int × Int)) : List Value := l.flatMap fun p => [.int .i64 p.1, .int .i64 p.2]
theorem bcells_length (l : List (Int × Int)) : (bcells l).length = l.length * 2 := by
  induction l with
  | nil => rfl
  | cons p l ih => unfold bcells at *; rw [List.flatMap_cons, List.length_append, ih, List.length_cons]; simp; omega
theorem bcells_was (l : List (Int × Int)) {i : Nat} (h : i < l.length) : (bcells l)[i * 2]? = some (.int .i64 (l.getD i (0, 0)).1) := by
  induction l generalizing i with
  | nil => simp at h
  | cons p l ih =>
    unfold bcells at *
    rw [List.flatMap_cons]
    cases i with
    | zero => rfl
    | succ i =>
      have := ih (i := i) (by simpa using h)
      rw [show (i + 1) * 2 = i * 2 + 2 from by omega]
      simpa using this
theorem bcells_now (l : List (Int × Int)) {i : Nat} (h : i < l.length) : (bcells l)[i * 2 + 1]? = some (.int .i64 (l.getD i (0, 0)).2) := by
  induction l generalizing i with
  | nil => simp at h
  | cons p l ih =>
    unfold bcells at *
    rw [List.flatMap_cons]
    cases i with
    | zero => rfl
    | succ i =>
      have := ih (i := i) (by simpa using h)
      rw [show (i + 1) * 2 + 1 = i * 2 + 1 + 2 from by omega]
      simpa using this
theorem bcells_set_now (l : List (Int × Int)) {i : Nat} (h : i < l.length) (n : Int) : (bcells l).set (i * 2 + 1) (.int .i64 n) = bcells (l.set i ((l.getD i (0, 0)).1, n)) := by
  induction l generalizing i with
  | nil => simp at h
  | cons p l ih =>
    unfold bcells at *
    rw [List.flatMap_cons]
    cases i with
    | zero => rfl
    | succ i =>
      have := ih (i := i) (by simpa using h)
      rw [show (i + 1) * 2 + 1 = i * 2 + 1 + 2 from by omega]
      simpa using this
theorem bcells_set_was (l : List (Int × Int)) {i : Nat} (h : i < l.length) (n : Int) : (bcells l).set (i * 2) (.int .i64 n) = bcells (l.set i (n, (l.getD i (0, 0)).2)) := by
  induction l generalizing i with
  | nil => simp at h
  | cons p l ih =>
    unfold bcells at *
    rw [List.flatMap_cons]
    cases i with
    | zero => rfl
    | succ i =>
      have := ih (i := i) (by simpa using h)
      rw [show (i + 1) * 2 = i * 2 + 2 from by omega]
      simpa using this
def acells (a : Auc) (gl : Nat) : Array Value := #[.int .i64 a.supply, .int .i64 a.start, .int .i64 a.step, .int .i64 a.round, .int .i64 a.state, .slice (some ⟨gl, 0, none⟩) a.l.length a.l.length]
/-- Block g is the auction a; its bidders lie in block gl. -/
structure AtA (w : World) (g gl : Nat) (a : Auc) : Prop where
  head : Blk w g 67 (acells a gl)
  list : Blk w gl 69 (bcells a.l).toArray
  ne : g ≠ gl
  ok : a.Ok
section
variable {w w' : World} {g gl : Nat} {a : Auc}
theorem AtA.below (h : AtA w g gl a) (hb : Below w.heap.size w w') : AtA w' g gl a := ⟨h.head.below hb h.head.lt, h.list.below hb h.list.lt, h.ne, h.ok⟩
theorem AtA.drewN (h : AtA w g gl a) (n : Nat) : AtA (w.drewN n) g gl a := ⟨h.head.drewN n, h.list.drewN n, h.ne, h.ok⟩
theorem AtA.drew (h : AtA w g gl a) : AtA w.drew g gl a := ⟨h.head.drew, h.list.drew, h.ne, h.ok⟩
theorem AtA.was (h : AtA w g gl a) {i : Nat} (hi : i < a.l.length) : w.cell? ⟨gl, i * 2, none⟩ = some (.int .i64 (a.l.getD i (0, 0)).1) := by
  rw [h.list.cell, List.getElem?_toArray]; exact bcells_was _ hi
theorem AtA.now (h : AtA w g gl a) {i : Nat} (hi : i < a.l.length) : w.cell? ⟨gl, i * 2 + 1, none⟩ = some (.int .i64 (a.l.getD i (0, 0)).2) := by
  rw [h.list.cell, List.getElem?_toArray]; exact bcells_now _ hi
theorem AtA.cells (h : AtA w g gl a) : w.cell? ⟨g, 0, none⟩ = some (.int .i64 a.supply) ∧ w.cell? ⟨g, 1, none⟩ = some (.int .i64 a.start) ∧ w.cell? ⟨g, 2, none⟩ = some (.int .i64 a.step) ∧ w.cell? ⟨g, 3, none⟩ = some (.int .i64 a.round) ∧
    w.cell? ⟨g, 4, none⟩ = some (.int .i64 a.state) ∧ w.cell? ⟨g, 5, none⟩ = some (.slice (some ⟨gl, 0, none⟩) a.l.length a.l.length) :=
  ⟨h.head.cell 0, h.head.cell 1, h.head.cell 2, h.head.cell 3, h.head.cell 4, h.head.cell 5⟩
end
theorem ret_i {k : IntKind} {a b : Int} (h : a = b) : Ending.returned (.int k a) = .returned (.int k b) := by rw [h]
theorem price_calls (w : World) (g gl : Nat) (a : Auc) (h : AtA w g gl a) :
    Calls Try.prog 20 #[.pointer (some ⟨g, 0, none⟩)] w fun e w' => e = .returned (.int .i64 a.price) ∧ ∃ d, w' = w.drewN d := by
  obtain ⟨c0, c1, c2, c3, c4, c5⟩ := h.cells
  obtain ⟨l1, l2, l3⟩ := h.ok.lap
  have h1 := h.ok.round
  have h2 := h.ok.start
  have h3 := h.ok.step
  have h4 := h.ok.price
  have E := Lib.hid (show a.price = a.start + (a.round - 1) * a.step from rfl)
  have q1 : IntKind.i64.wrap (a.round - 1) = a.round - 1 := by rw [IntKind.wrap_i64]; omega
  have q2 : IntKind.i64.wrap ((a.round - 1) * a.step) = (a.round - 1) * a.step := by rw [IntKind.wrap_i64]; omega
  have q3 : IntKind.i64.wrap (a.start + (a.round - 1) * a.step) = a.start + (a.round - 1) * a.step := by rw [IntKind.wrap_i64]; omega
  clear h c0 c4 c5 l1 l2 l3 h1 h2 h3 h4
  rw [E.out]
  go_enter Try.func20, Try.ntmps20
  go_wp2
  go_quiet (fail)
  go_wp2
  go_ret
  exact ⟨rfl, _, rfl⟩
set_option maxHeartbeats 400000 in
theorem demand_calls (w : World) (g gl : Nat) (a : Auc) (h : AtA w g gl a) :
    Calls Try.prog 22 #[.pointer (some ⟨g, 0, none⟩)] w fun e w' => e = .returned (.int .i64 a.demand) ∧ Below w.heap.size w w' := by
  have H := Lib.hid h
  obtain ⟨c0, c1, c2, c3, c4, c5⟩ := h.cells
  obtain ⟨n, hn⟩ : ∃ n, Hid (a.l.length = n) := ⟨_, Lib.hid rfl⟩
  rw [hn.out] at c5
  have hn16 := h.ok.len.2
  rw [hn.out] at hn16
  clear h c0 c1 c2 c3 c4
  go_enter Try.func22, Try.ntmps22
  go_wp2
  go_loopw [3, 13] (fun s3 s13 wr => ∃ i : Nat, i ≤ n ∧ s13 = .int .i64 (i : Int) ∧ s3 = .int .i64 (Auc.nows (a.l.take i)) ∧ Hid (Below w.heap.size w wr)) (fun _ s13 _ => n - (intOf s13).toNat)
  case atStart => exact ⟨0, Nat.zero_le _, rfl, rfl, Lib.hid (Below.refl _ _)⟩
  case round =>
    obtain ⟨i, hi, rfl, rfl, hb⟩ := hrel
    have i0 : (0 : Int) ≤ (i : Int) := by omega
    by_cases hlt : i < n
    · have hlt2 : (i : Int) < (n : Int) := by omega
      have hA := H.out
      have hl : i < a.l.length := by rw [hn.out]; exact hlt
      have k1 := (hb.out.cell (p := ⟨gl, i * 2, none⟩) hA.list.lt).trans (hA.was hl)
      have k2 := (hb.out.cell (p := ⟨gl, i * 2 + 1, none⟩) hA.list.lt).trans (hA.now hl)
      have hbd := Auc.nows_bound (l := a.l.take i) fun p hp => hA.ok.each p (List.mem_of_mem_take hp)
      have hlen : ((a.l.take i).length : Int) ≤ 16 := by rw [List.length_take]; omega
      have hp := hA.ok.each (a.l.getD i (0, 0)) (by rw [List.getD_eq_getElem?_getD, List.getElem?_eq_getElem hl]; exact List.getElem_mem hl)
      have hsn : Hid (Auc.nows (a.l.take (i + 1)) = Auc.nows (a.l.take i) + (a.l.getD i (0, 0)).2) := Lib.hid (by
        rw [List.take_add_one, Auc.nows_append, List.getD_eq_getElem?_getD, List.getElem?_eq_getElem hl]; simp [Auc.nows])
      obtain ⟨hp1, hp2, hp3, hp4⟩ := hp
      obtain ⟨hb1, hb2⟩ := hbd
      have hb3 : Auc.nows (a.l.take i) ≤ 16777216 := by omega
      generalize a.l.getD i (0, 0) = p at k1 k2 hsn hp1 hp2 hp3 hp4
      obtain ⟨p1, p2⟩ := p
      simp only at k1 k2 hsn hp1 hp2 hp3 hp4
      clear hA hl hb2 hlen
      go_wp2
      go_roundw
      case rel => exact ⟨i + 1, by omega, by go_num, by rw [hsn.out], Lib.hid (hb.out.alloc hb.out.size _)⟩
      case measure => simp [intOf]; omega
    · obtain rfl : i = n := by omega
      go_wp2
      go_ret
      refine ⟨ret_i ?_, hb.out⟩
      rw [List.take_of_length_le (by rw [hn.out]; omega)]; rfl
end Go.Proofs.Ytccmafmeblojpaa
