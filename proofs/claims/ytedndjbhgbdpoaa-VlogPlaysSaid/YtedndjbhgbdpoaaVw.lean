/- A log that the laws made: one predicate, one lemma a call. -/
import Derived.Test.YtedndjbhgbdpoaaNil
namespace Go.Proofs.Ytedndjbhgbdpoaa
open Go.RowKit
/-- Block g is the log l, made behind w0; nothing that was there has changed. -/
def Vw (w0 w : World) (g : Nat) (l : Vl) : Prop := ∃ gm gv kv, AtV w g gm gv kv l ∧ w0.heap.size ≤ g ∧ w0.heap.size ≤ gm ∧ (∀ k j b, k < 8 → j < 2 → gv k j = some b → w0.heap.size ≤ b) ∧ Below w0.heap.size w0 w
section
variable {w0 w w' : World} {g : Nat} {l : Vl}
theorem Vw.all (h : Vw w0 w g l) : Below w0.heap.size w0 w := by obtain ⟨_, _, _, _, _, _, _, h⟩ := h; exact h
theorem Vw.ok (h : Vw w0 w g l) : l.Ok := by obtain ⟨_, _, _, h, _⟩ := h; exact h.ok
theorem Vw.next (h : Vw w0 w g l) (hb : Below w.heap.size w w') : Vw w0 w' g l := by
  obtain ⟨gm, gv, kv, h1, h2, h3, h4, h5⟩ := h
  exact ⟨gm, gv, kv, h1.below hb, h2, h3, h4, h5.trans (hb.mono h5.size)⟩
theorem Vw.turned (h : Vw w0 w g l) {l' : Vl} (ht : ∀ gm gv kv, AtV w g gm gv kv l → VoteTo w w' g gm gv l' ∧ Only (feetW g gm gv) w w') : Vw w0 w' g l' := by
  obtain ⟨gm, gv, kv, h1, h2, h3, h4, h5⟩ := h
  obtain ⟨⟨gv', kv', h6, h7⟩, h8⟩ := ht gm gv kv h1
  refine ⟨gm, gv', kv', h6, h2, h3, fun k j b hk hj hb => ?_, h5.trans (h8.below h5.size fun b hb => ?_)⟩
  · rcases h7 k j b hk hj hb with h | h
    · exact h4 k j b hk hj h
    · exact Nat.le_trans h5.size h
  · rcases hb with rfl | rfl | ⟨k, j, hk, hj, hb⟩
    · exact h2
    · exact h3
    · exact h4 k j b hk hj hb
def NewLog (n : Int) (w0 : World) (e : Ending) (w' : World) : Prop := ∃ g, e = .returned (.tuple #[.pointer (some ⟨g, 0, none⟩), .int .i64 0]) ∧ Vw w0 w' g (Vl.fresh n)
theorem Vw.new (w0 w : World) (hb : Below w0.heap.size w0 w) (n : Int) (hn : n = 4 ∨ n = 7 ∨ n = 10 ∨ n = 13) : Calls Try.prog 13 #[.int .i64 n] w (NewLog n w0) :=
  (new_calls w n hn).mono fun _ _ ⟨g, gm, h1, h2, h3, h4, h5⟩ => ⟨g, h1, gm, _, _, h2, Nat.le_trans hb.size h3, Nat.le_trans hb.size h4, (fun _ _ _ _ _ h => by cases h), hb.trans (h5.mono hb.size)⟩
def TurnedTo (w0 : World) (g : Nat) (r : Vl × Int) (e : Ending) (w' : World) : Prop := e = .returned (.int .i64 r.2) ∧ Vw w0 w' g r.1
theorem Vw.enter (h : Vw w0 w g l) (view : Int) : Calls Try.prog 29 #[.pointer (some ⟨g, 0, none⟩), .int .i64 view] w (TurnedTo w0 g (l.enter view)) := by
  obtain ⟨gm, gv, kv, h1, h2, h3, h4, h5⟩ := h
  refine (enter_calls h1 view).mono fun e w' ⟨a, b, c⟩ => ⟨a, ?_⟩
  obtain ⟨gv', kv', b1, b2⟩ := b
  refine ⟨gm, gv', kv', b1, h2, h3, fun k j x hk hj hx => ?_, h5.trans (c.below h5.size fun x hx => hx ▸ h2)⟩
  exact (b2 k j x hk hj hx).elim (fun h => h4 k j x hk hj h) fun h => Nat.le_trans h5.size h
theorem Vw.cut (h : Vw w0 w g l) (seq : Int) : Calls Try.prog 27 #[.pointer (some ⟨g, 0, none⟩), .int .i64 seq] w (TurnedTo w0 g (l.cut seq)) := by
  obtain ⟨gm, gv, kv, h1, h2, h3, h4, h5⟩ := h
  refine (cut_calls h1 seq).mono fun e w' ⟨a, b, c⟩ => ⟨a, ?_⟩
  obtain ⟨gv', kv', b1, b2⟩ := b
  refine ⟨gm, gv', kv', b1, h2, h3, fun k j x hk hj hx => ?_, h5.trans (c.below h5.size fun x hx => hx ▸ h2)⟩
  exact (b2 k j x hk hj hx).elim (fun h => h4 k j x hk hj h) fun h => Nat.le_trans h5.size h
theorem Vw.propose (h : Vw w0 w g l) (view seq : Int) (d b : ByteArray) : Calls Try.prog 15 #[.pointer (some ⟨g, 0, none⟩), .int .i64 view, .int .i64 seq, .string d, .string b] w (TurnedTo w0 g (l.propose view seq d b)) := by
  obtain ⟨gm, gv, kv, h1, h2, h3, h4, h5⟩ := h
  refine (propose_calls h1 view seq d b).mono fun e w' ⟨a, ⟨kv', b1⟩, c⟩ => ⟨a, gm, gv, kv', b1, h2, h3, h4, h5.trans (c.below h5.size fun x hx => hx ▸ h2)⟩
theorem Vw.done (h : Vw w0 w g l) (a : VAct) : Calls Try.prog 16 #[.pointer (some ⟨g, 0, none⟩), .agg (acells a).toArray] w (TurnedTo w0 g (l.act a)) := by
  have h0 := h
  obtain ⟨gm, gv, kv, h1, h2, h3, h4, h5⟩ := h
  have hd : Calls Try.prog 16 #[.pointer (some ⟨g, 0, none⟩), .agg (acells a).toArray] w (DidAct w g gm gv l a) := by
    have := arnd_lt a.kind (below := 6) (by omega)
    rcases (show arnd a.kind 6 = 0 ∨ arnd a.kind 6 = 1 ∨ arnd a.kind 6 = 2 ∨ arnd a.kind 6 = 3 ∨ arnd a.kind 6 = 4 ∨ arnd a.kind 6 = 5 by omega) with e | e | e | e | e | e
    · exact done0 h1 a e
    · exact done1 h1 a e
    · exact done2 h1 a e
    · exact done3 h1 a e
    · exact done4 h1 a e
    · exact done5 h1 a e
  refine hd.mono fun e w' ⟨q1, ⟨gv', kv', b1, b2⟩, c⟩ => ⟨q1, gm, gv', kv', b1, h2, h3, fun k j x hk hj hx => ?_, h5.trans (c.below h5.size fun x hx => ?_)⟩
  · exact (b2 k j x hk hj hx).elim (fun h => h4 k j x hk hj h) fun h => Nat.le_trans h5.size h
  · rcases hx with rfl | rfl | ⟨k, j, hk, hj, hx⟩
    · exact h2
    · exact h3
    · exact h4 k j x hk hj hx
def Tells (w0 : World) (g : Nat) (l : Vl) (v : Value) (e : Ending) (w' : World) : Prop := e = .returned v ∧ Vw w0 w' g l
theorem Vw.view (h : Vw w0 w g l) : Calls Try.prog 23 #[.pointer (some ⟨g, 0, none⟩)] w fun e w' => e = .returned (.int .i64 l.view) ∧ w = w' := by
  obtain ⟨gm, gv, kv, h1, _⟩ := h
  exact view_calls h1
theorem Vw.low (h : Vw w0 w g l) : Calls Try.prog 20 #[.pointer (some ⟨g, 0, none⟩)] w fun e w' => e = .returned (.int .i64 l.low) ∧ w = w' := by
  obtain ⟨gm, gv, kv, h1, _⟩ := h
  exact low_calls h1
theorem Vw.proposal (h : Vw w0 w g l) (seq : Int) : Calls Try.prog 25 #[.pointer (some ⟨g, 0, none⟩), .int .i64 seq] w fun e w' => e = .returned (.tuple #[.string (l.proposal seq).1, .string (l.proposal seq).2.1, .bool (l.proposal seq).2.2]) ∧ Below w.heap.size w w' := by
  obtain ⟨gm, gv, kv, h1, _⟩ := h
  exact (proposal_calls h1 seq).mono fun e w' ⟨a, d, b⟩ => ⟨a, by rw [b]; exact below_draw (Below.refl _ _) _⟩
theorem Vw.prepared (h : Vw w0 w g l) (seq : Int) : Calls Try.prog 18 #[.pointer (some ⟨g, 0, none⟩), .int .i64 seq] w fun e w' => e = .returned (.bool (l.prepared seq)) ∧ Below w.heap.size w w' := by
  obtain ⟨gm, gv, kv, h1, _⟩ := h
  exact prepared_calls h1 seq
theorem Vw.committed (h : Vw w0 w g l) (seq : Int) : Calls Try.prog 21 #[.pointer (some ⟨g, 0, none⟩), .int .i64 seq] w fun e w' => e = .returned (.bool (l.committed seq)) ∧ Below w.heap.size w w' := by
  obtain ⟨gm, gv, kv, h1, _⟩ := h
  exact committed_calls h1 seq
theorem Vw.voted (h : Vw w0 w g l) (kind : Int) (hk : kind = 3 ∨ kind = 4) (seq frm : Int) (hi : (Lit.int .i64 frm).wf = true) : Calls Try.prog 26 #[.pointer (some ⟨g, 0, none⟩), .int .i64 kind, .int .i64 seq, .int .i64 frm] w (TellsVote l kind seq frm w) := by
  obtain ⟨gm, gv, kv, h1, _⟩ := h
  by_cases hin : l.within seq
  · rcases hk with rfl | rfl
    · exact voted_in3 h1 seq frm hi hin
    · exact voted_in4 h1 seq frm hi hin
  · exact voted_off h1 kind seq frm (.inr hin)
theorem Vw.kept (h : Vw w0 w g l) : Calls Try.prog 22 #[.pointer (some ⟨g, 0, none⟩)] w fun e w' => ∃ A c, e = .returned (.slice A l.kept.length c) ∧ KeptAt w w' (.slice A l.kept.length c) l.kept ∧ Below w.heap.size w w' := by
  obtain ⟨gm, gv, kv, h1, _⟩ := h
  exact kept_calls h1
end
end Go.Proofs.Ytedndjbhgbdpoaa
