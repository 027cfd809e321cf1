/- A log of votes as plain numbers. -/
namespace Go.Proofs.Ytedndjbhgbdpoaa
/-- A signed message, a vote, a proof that is kept, a number's slot, a checkpoint, a log. -/
structure Sg where
  frm : Int
  body : ByteArray
  sig : ByteArray
structure Vt where
  m : Sg
  d : ByteArray
structure Kb where
  kind : Int
  view : Int
  seq : Int
  digest : ByteArray
  text : ByteArray
  list : List Sg
structure Slot where
  has : Bool
  digest : ByteArray
  batch : ByteArray
  votes : Nat → Int → Option Vt
  kept : Kb
structure Mk where
  m : Sg
  seq : Int
  root : ByteArray
structure Vl where
  n : Int
  view : Int
  low : Int
  slots : Nat → Slot
  marks : Int → Option Mk
def noText : ByteArray := ⟨#[]⟩
def Kb.none : Kb := ⟨0, 0, 0, noText, noText, []⟩
def Slot.none : Slot := ⟨false, noText, noText, fun _ _ => Option.none, Kb.none⟩
def ix (seq : Int) : Nat := (seq % 8).toNat
theorem ix_lt (seq : Int) : ix seq < 8 := by unfold ix; omega
def putAt {α : Type} (f : Int → Option α) (i : Int) (v : α) : Int → Option α := fun j => if j = i then some v else f j
namespace Vl
def fresh (n : Int) : Vl := ⟨n, 0, 0, fun _ => Slot.none, fun _ => Option.none⟩
def quorum (l : Vl) : Int := l.n - (l.n - 1) / 3
def within (l : Vl) (seq : Int) : Prop := l.low < seq ∧ seq ≤ l.low + 8
instance (l : Vl) (seq : Int) : Decidable (l.within seq) := by unfold within; infer_instance
def slot (l : Vl) (seq : Int) : Slot := l.slots (ix seq)
def put (l : Vl) (k : Nat) (s : Slot) : Vl := { l with slots := fun i => if i = k then s else l.slots i }
end Vl
def Slot.agreeing (s : Slot) (j : Nat) (i : Int) : Option Sg :=
  match s.votes j i with
  | some v => if s.has = true ∧ v.d = s.digest then some v.m else Option.none
  | Option.none => Option.none
/-- The votes for a number's proposal, by who sent them. -/
def Slot.agree (s : Slot) (j n : Nat) : List Sg := (List.range n).filterMap fun (i : Nat) => s.agreeing j (i : Int)
def Slot.vote (s : Slot) (j : Nat) (i : Int) (v : Vt) : Slot := { s with votes := fun j' => if j' = j then putAt (s.votes j) i v else s.votes j' }
namespace Vl
def agree (l : Vl) (seq : Int) (j : Nat) : List Sg := (l.slot seq).agree j l.n.toNat
def keep (l : Vl) (seq : Int) : Vl :=
  if ((l.agree seq 0).length : Int) < l.quorum ∨ ((l.slot seq).kept.kind ≠ 0 ∧ (l.slot seq).kept.view = l.view) then l
  else l.put (ix seq) { l.slot seq with kept := ⟨11, l.view, seq, (l.slot seq).digest, (l.slot seq).batch, (l.agree seq 0).take l.quorum.toNat⟩ }
def enter (l : Vl) (view : Int) : Vl × Int :=
  if view ≤ l.view ∨ 1048576 < view then (l, 1)
  else ({ l with view := view, slots := fun k => if k < 8 then { Slot.none with kept := (l.slots k).kept } else l.slots k }, 0)
def propose (l : Vl) (view seq : Int) (d b : ByteArray) : Vl × Int :=
  if d = noText then (l, 1)
  else if view ≠ l.view ∨ ¬ l.within seq then (l, 100)
  else if (l.slot seq).has = false then ((l.put (ix seq) { l.slot seq with has := true, digest := d, batch := b }).keep seq, 0)
  else if (l.slot seq).digest = d ∧ (l.slot seq).batch = b then (l, 101) else (l, 102)
def vote (l : Vl) (m : Sg) (kind view seq : Int) (d : ByteArray) : Vl × Int :=
  if m.frm < 0 ∨ l.n ≤ m.frm ∨ (kind ≠ 3 ∧ kind ≠ 4) then (l, 1)
  else if view ≠ l.view ∨ ¬ l.within seq then (l, 100)
  else match (l.slot seq).votes (kind - 3).toNat m.frm with
    | some old => if old.d = d then (l, 101) else (l, 102)
    | Option.none => ((l.put (ix seq) ((l.slot seq).vote (kind - 3).toNat m.frm ⟨m, d⟩)).keep seq, 0)
def check (l : Vl) (m : Sg) (kind seq : Int) (d : ByteArray) : Vl × Int :=
  if m.frm < 0 ∨ l.n ≤ m.frm ∨ kind ≠ 5 then (l, 1)
  else if seq ≤ l.low then (l, 100)
  else
    let old := (l.marks m.frm).getD ⟨⟨0, noText, noText⟩, 0, noText⟩
    if old.seq < seq then ({ l with marks := putAt l.marks m.frm ⟨m, seq, d⟩ }, 0)
    else if seq = old.seq ∧ d ≠ old.root then (l, 102) else (l, 101)
def wiped (l : Vl) (i : Nat) : Vl := { l with slots := fun k => if (List.range i).any (fun (j : Nat) => ix (l.low + 1 + (j : Int)) == k) = true then Slot.none else l.slots k }
def cut (l : Vl) (seq : Int) : Vl × Int :=
  if seq ≤ l.low ∨ 1073741824 < seq ∨ seq % 4 ≠ 0 then (l, 1)
  else ({ l.wiped (min 8 (seq - l.low).toNat) with low := seq }, 0)
def proposal (l : Vl) (seq : Int) : ByteArray × ByteArray × Bool :=
  if l.within seq then ((l.slot seq).digest, (l.slot seq).batch, (l.slot seq).has) else (noText, noText, false)
def prepared (l : Vl) (seq : Int) : Bool := decide (l.within seq ∧ l.quorum ≤ ((l.agree seq 0).length : Int))
def committed (l : Vl) (seq : Int) : Bool := l.prepared seq && decide (l.quorum ≤ ((l.agree seq 1).length : Int))
def voted (l : Vl) (kind seq frm : Int) : Option Sg :=
  if (kind ≠ 3 ∧ kind ≠ 4) ∨ ¬ l.within seq then Option.none else ((l.slot seq).votes (kind - 3).toNat frm).map (·.m)
def kept (l : Vl) : List Kb := (List.range 8).filterMap fun (i : Nat) =>
  let b := (l.slot (l.low + 1 + (i : Int))).kept
  if b.kind ≠ 0 then some b else Option.none
/-- What may stand. -/
structure Ok (l : Vl) : Prop where
  n : l.n = 4 ∨ l.n = 7 ∨ l.n = 10 ∨ l.n = 13
  view : 0 ≤ l.view ∧ l.view ≤ 1048576
  low : 0 ≤ l.low ∧ l.low ≤ 1073741824
  votes : ∀ k j i, (l.slots k).votes j i ≠ Option.none → 0 ≤ i ∧ i < l.n
  marks : ∀ i, l.marks i ≠ Option.none → 0 ≤ i ∧ i < l.n
  kept : ∀ k, ((l.slots k).kept.kind = 0 ∧ (l.slots k).kept = Kb.none) ∨ ((l.slots k).kept.kind = 11 ∧ 0 ≤ (l.slots k).kept.view ∧ (l.slots k).kept.view ≤ l.view ∧ ((l.slots k).kept.list.length : Int) = l.quorum)
end Vl
end Go.Proofs.Ytedndjbhgbdpoaa
