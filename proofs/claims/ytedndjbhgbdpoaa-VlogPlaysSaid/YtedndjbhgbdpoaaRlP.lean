/- The reference's log as plain lists (for VlogPlays). -/
import Derived.Test.YtedndjbhgbdpoaaVoted
namespace Go.Proofs.Ytedndjbhgbdpoaa
structure It where
  kind : Int
  frm : Int
  view : Int
  seq : Int
  digest : ByteArray
  batch : ByteArray
  m : Sg

def It.none : It := ⟨0, 0, 0, 0, noText, noText, Sg.none⟩
structure Rl where
  n : Int
  view : Int
  low : Int
  L : List It
  kept : List Kb
namespace Rl
def quorum (l : Rl) : Int := l.n - (l.n - 1) / 3
def within (l : Rl) (seq : Int) : Prop := l.low < seq ∧ seq ≤ l.low + 8
instance (l : Rl) (seq : Int) : Decidable (l.within seq) := by unfold within; infer_instance
def here (l : Rl) (x : It) (kind seq : Int) : Bool := decide (x.kind = kind) && decide (x.view = l.view) && decide (x.seq = seq)
def proposal (l : Rl) (seq : Int) : Option It := l.L.find? fun x => decide (l.within seq) && l.here x 2 seq
def voted (l : Rl) (kind seq frm : Int) : Option It := l.L.find? fun x => decide (l.within seq) && l.here x kind seq && decide (x.frm = frm)
def agreeing (l : Rl) (kind seq : Int) (p : It) (i : Int) : Option Sg :=
  match l.voted kind seq i with
  | some v => if v.digest = p.digest then some v.m else Option.none
  | Option.none => Option.none
def agree (l : Rl) (kind seq : Int) : List Sg :=
  match l.proposal seq with
  | some p => (List.range l.n.toNat).filterMap fun (i : Nat) => l.agreeing kind seq p (i : Int)
  | Option.none => []
/-- In among those that are kept, by their numbers. -/
def slip (kept : List Kb) (b : Kb) : List Kb :=
  let k := kept.length - (kept.reverse.takeWhile fun x => decide (b.seq < x.seq)).length
  kept.take k ++ b :: kept.drop k
def taken (l : Rl) (x : It) : Rl :=
  let l2 : Rl := { l with L := l.L ++ [x] }
  let v := l2.agree 3 x.seq
  if x.kind = 5 ∨ (v.length : Int) < l2.quorum then l2
  else if l.kept.any (fun k => decide (k.seq = x.seq) && decide (k.view = l.view)) then l2
  else
    let p := (l2.proposal x.seq).getD It.none
    { l2 with kept := slip (l.kept.filter fun k => decide (k.seq ≠ x.seq)) ⟨11, l.view, x.seq, p.digest, p.batch, v.take l2.quorum.toNat⟩ }
def enter (l : Rl) (view : Int) : Rl × Int := if view ≤ l.view ∨ 1048576 < view then (l, 1) else ({ l with view := view }, 0)
def propose (l : Rl) (view seq : Int) (d b : ByteArray) : Rl × Int :=
  if d = noText then (l, 1)
  else if view ≠ l.view ∨ ¬ l.within seq then (l, 100)
  else match l.proposal seq with
    | some p => if p.digest = d ∧ p.batch = b then (l, 101) else (l, 102)
    | Option.none => (l.taken ⟨2, 0, view, seq, d, b, Sg.none⟩, 0)
def vote (l : Rl) (m : Sg) (kind view seq : Int) (d : ByteArray) : Rl × Int :=
  if m.frm < 0 ∨ l.n ≤ m.frm ∨ (kind ≠ 3 ∧ kind ≠ 4) then (l, 1)
  else if view ≠ l.view ∨ ¬ l.within seq then (l, 100)
  else match l.voted kind seq m.frm with
    | some v => if v.digest = d then (l, 101) else (l, 102)
    | Option.none => (l.taken ⟨kind, m.frm, view, seq, d, noText, m⟩, 0)
def last (l : Rl) (frm : Int) : Option It := l.L.reverse.find? fun x => decide (x.kind = 5) && decide (x.frm = frm)
def check (l : Rl) (m : Sg) (kind seq : Int) (d : ByteArray) : Rl × Int :=
  if m.frm < 0 ∨ l.n ≤ m.frm ∨ kind ≠ 5 then (l, 1)
  else if seq ≤ l.low then (l, 100)
  else match l.last m.frm with
    | some x => if seq = x.seq ∧ d ≠ x.digest then (l, 102) else if seq ≤ x.seq then (l, 101) else (l.taken ⟨5, m.frm, 0, seq, d, noText, m⟩, 0)
    | Option.none => (l.taken ⟨5, m.frm, 0, seq, d, noText, m⟩, 0)
def cut (l : Rl) (seq : Int) : Rl × Int :=
  if seq ≤ l.low ∨ 1073741824 < seq ∨ seq % 4 ≠ 0 then (l, 1)
  else ({ l with low := seq, kept := l.kept.filter fun k => decide (seq < k.seq) }, 0)
end Rl
end Go.Proofs.Ytedndjbhgbdpoaa
