/- awake of the log's laws. -/
import Derived.Test.YtedndjbhgbdpoaaVw
namespace Go.Proofs.Ytedndjbhgbdpoaa
open Go.RowKit
def tD : ByteArray := ⟨#[100]⟩
def tB : ByteArray := ⟨#[98]⟩
def tE : ByteArray := ⟨#[101]⟩
def tX : ByteArray := ⟨#[120]⟩
def tM : ByteArray := ⟨#[109]⟩
def y0 : Vl := Vl.fresh 4
def y1 : Vl := (y0.propose 0 1 tD tB).1
def y2 : Vl := (y1.propose 0 1 tE tB).1
def y3 : Vl := (y2.act ⟨2, 0, 0, 1, tD, tM⟩).1
def y4 : Vl := (y3.act ⟨2, 1, 0, 1, tD, tM⟩).1
def y5 : Vl := (y4.act ⟨2, 3, 0, 1, tX, tM⟩).1
def y6 : Vl := (y5.act ⟨2, 2, 0, 1, tD, tM⟩).1
def kb6 : Kb := y6.kept.getD 0 Kb.none
theorem q1 : (y0.propose 0 1 tD tB).2 = 0 := by decide +kernel
theorem q2 : (y1.propose 0 1 tE tB).2 = 102 := by decide +kernel
theorem q5 : y5.prepared 1 = false := by decide +kernel
theorem q6 : (y5.act ⟨2, 2, 0, 1, tD, tM⟩).2 = 0 := by decide +kernel
theorem q7 : y6.prepared 1 = true := by decide +kernel
theorem q8 : y6.committed 1 = false := by decide +kernel
theorem q9 : y6.kept.length = 1 := by decide +kernel
theorem q10 : kb6.seq = 1 := by decide +kernel
theorem q11 : kb6.text = ⟨#[98]⟩ := by decide +kernel
theorem q12 : kb6.list.length = 3 := by decide +kernel
theorem vote_law (kd fr sq : Int) (d : ByteArray) (w : World) :
    Calls Try.prog 17 #[.int .i64 kd, .int .i64 fr, .int .i64 sq, .string d] w fun e w' => e = .returned (.agg (acells ⟨kd, fr, 0, sq, d, tM⟩).toArray) ∧ Below w.heap.size w w' := by
  unfold acells tM
  go_enter Try.func17, Try.ntmps17
  go_wp2
  (try simp only [Exit.inBlock, Exit.then])
  refine bodyPost_ret (by simp [results, Try.results17, asAddr, go_sem]; rfl) rfl ?_
  exact ⟨rfl, by repeat (first | exact Below.refl _ _ | (refine Below.setCell ?_ ?_ _; rotate_left; (try simp); rotate_left) | (refine Below.alloc ?_ (by simp) _))⟩
/-- The cells of a proof that is told. -/
theorem KeptAt.at_ {w0 w : World} {A : Option Addr} {n c : Nat} {L : List Kb} (h : KeptAt w0 w (.slice A n c) L) {i : Nat} (hi : i < L.length) :
    ∃ b o bl ol cl, A = some ⟨b, o, none⟩ ∧ w0.heap.size ≤ b ∧ b < w.heap.size ∧ w0.heap.size ≤ bl ∧ bl < w.heap.size ∧ bl ≠ b ∧ w.cell? ⟨b, o + i * 8, none⟩ = some (.int .i64 (L.getD i Kb.none).kind) ∧ w.cell? ⟨b, o + i * 8 + 1, none⟩ = some (.int .i64 (L.getD i Kb.none).view) ∧ w.cell? ⟨b, o + i * 8 + 2, none⟩ = some (.int .i64 (L.getD i Kb.none).seq) ∧
      w.cell? ⟨b, o + i * 8 + 5, none⟩ = some (.string (L.getD i Kb.none).digest) ∧ w.cell? ⟨b, o + i * 8 + 6, none⟩ = some (.string (L.getD i Kb.none).text) ∧ w.cell? ⟨b, o + i * 8 + 7, none⟩ = some (.slice (some ⟨bl, ol, none⟩) (L.getD i Kb.none).list.length cl) ∧
      ∀ j, j < (L.getD i Kb.none).list.length * 3 → w.cell? ⟨bl, ol + j, none⟩ = some ((scells (L.getD i Kb.none).list).getD j (.bool false)) := by
  obtain ⟨bk, vs, h1, h2, h3, h4⟩ := h
  obtain ⟨hl, A', c', hv, hnc, _, hrow⟩ := h2
  cases hv
  obtain ⟨k, hk⟩ : ∃ k, L[i]? = some k := ⟨_, List.getElem?_eq_getElem hi⟩
  obtain ⟨u, hu⟩ : ∃ u, vs[i]? = some u := ⟨_, List.getElem?_eq_getElem (by omega)⟩
  have hkd : L.getD i Kb.none = k := by rw [List.getD_eq_getElem?_getD, hk]; rfl
  rw [hkd]
  obtain ⟨bl, ol, cl, e1, e2, e3, e4, e5⟩ := h4 i k u hk hu
  rcases hrow with ⟨_, hz⟩ | ⟨g, off, hb, rfl, hlt, _, hcells⟩
  · omega
  · have each : ∀ j, j < 8 → w.cell? ⟨g, off + i * 8 + j, none⟩ = (kcell k u)[j]? := fun j hj => by
      rw [Nat.add_assoc, hcells (i * 8 + j) (by omega), kcells_at L vs i j k u hk hu hj]
    refine ⟨g, off, bl, ol, cl, rfl, h3 g hb, hlt, e2, e3, fun e => e4 (by rw [e, hb]), each 0 (by omega), each 1 (by omega), each 2 (by omega), each 5 (by omega), each 6 (by omega), ?_, e5⟩
    rw [each 7 (by omega), ← e1]; rfl
section
variable {w0 w : World} {g : Nat}
theorem ex1 (h : Vw w0 w g y0) : Calls Try.prog 15 #[.pointer (some ⟨g, 0, none⟩), .int .i64 0, .int .i64 1, .string ⟨#[100]⟩, .string ⟨#[98]⟩] w fun e w' => e = .returned (.int .i64 0) ∧ Vw w0 w' g y1 := by
  have := h.propose 0 1 tD tB; unfold TurnedTo at this; rw [q1] at this; exact this
theorem ex2 (h : Vw w0 w g y1) : Calls Try.prog 15 #[.pointer (some ⟨g, 0, none⟩), .int .i64 0, .int .i64 1, .string ⟨#[101]⟩, .string ⟨#[98]⟩] w fun e w' => e = .returned (.int .i64 102) ∧ Vw w0 w' g y2 := by
  have := h.propose 0 1 tE tB; unfold TurnedTo at this; rw [q2] at this; exact this
theorem ex3 (h : Vw w0 w g y2) : Calls Try.prog 16 #[.pointer (some ⟨g, 0, none⟩), .agg (acells ⟨2, 0, 0, 1, ⟨#[100]⟩, tM⟩).toArray] w fun e w' => (∃ r, e = .returned (.int .i64 r)) ∧ Vw w0 w' g y3 :=
  (h.done ⟨2, 0, 0, 1, tD, tM⟩).mono fun _ _ ⟨h1, h2⟩ => ⟨⟨_, h1⟩, h2⟩
theorem ex4 (h : Vw w0 w g y3) : Calls Try.prog 16 #[.pointer (some ⟨g, 0, none⟩), .agg (acells ⟨2, 1, 0, 1, ⟨#[100]⟩, tM⟩).toArray] w fun e w' => (∃ r, e = .returned (.int .i64 r)) ∧ Vw w0 w' g y4 :=
  (h.done ⟨2, 1, 0, 1, tD, tM⟩).mono fun _ _ ⟨h1, h2⟩ => ⟨⟨_, h1⟩, h2⟩
theorem ex5 (h : Vw w0 w g y4) : Calls Try.prog 16 #[.pointer (some ⟨g, 0, none⟩), .agg (acells ⟨2, 3, 0, 1, ⟨#[120]⟩, tM⟩).toArray] w fun e w' => (∃ r, e = .returned (.int .i64 r)) ∧ Vw w0 w' g y5 :=
  (h.done ⟨2, 3, 0, 1, tX, tM⟩).mono fun _ _ ⟨h1, h2⟩ => ⟨⟨_, h1⟩, h2⟩
theorem ex6 (h : Vw w0 w g y5) : Calls Try.prog 18 #[.pointer (some ⟨g, 0, none⟩), .int .i64 1] w fun e w' => e = .returned (.bool false) ∧ Vw w0 w' g y5 := by
  have := h.prepared 1; rw [q5] at this; exact this.mono fun _ _ ⟨h1, h2⟩ => ⟨h1, h.next h2⟩
theorem ex7 (h : Vw w0 w g y5) : Calls Try.prog 16 #[.pointer (some ⟨g, 0, none⟩), .agg (acells ⟨2, 2, 0, 1, ⟨#[100]⟩, tM⟩).toArray] w fun e w' => e = .returned (.int .i64 0) ∧ Vw w0 w' g y6 := by
  have := h.done ⟨2, 2, 0, 1, tD, tM⟩; unfold TurnedTo at this; rw [q6] at this; exact this
theorem ex8 (h : Vw w0 w g y6) : Calls Try.prog 18 #[.pointer (some ⟨g, 0, none⟩), .int .i64 1] w fun e w' => e = .returned (.bool true) ∧ Vw w0 w' g y6 := by
  have := h.prepared 1; rw [q7] at this; exact this.mono fun _ _ ⟨h1, h2⟩ => ⟨h1, h.next h2⟩
theorem ex9 (h : Vw w0 w g y6) : Calls Try.prog 21 #[.pointer (some ⟨g, 0, none⟩), .int .i64 1] w fun e w' => e = .returned (.bool false) ∧ Vw w0 w' g y6 := by
  have := h.committed 1; rw [q8] at this; exact this.mono fun _ _ ⟨h1, h2⟩ => ⟨h1, h.next h2⟩
def ToldOne (w0 : World) (e : Ending) (w' : World) : Prop := ∃ b o c bl ol cl, e = .returned (.slice (some ⟨b, o, none⟩) 1 c) ∧ w'.cell? ⟨b, o + 2, none⟩ = some (.int .i64 1) ∧ w'.cell? ⟨b, o + 6, none⟩ = some (.string ⟨#[98]⟩) ∧ w'.cell? ⟨b, o + 7, none⟩ = some (.slice (some ⟨bl, ol, none⟩) 3 cl) ∧ Below w0.heap.size w0 w'
theorem ex10 (h : Vw w0 w g y6) : Calls Try.prog 22 #[.pointer (some ⟨g, 0, none⟩)] w (ToldOne w0) := by
  have := h.kept
  rw [q9] at this
  refine this.mono fun e w' ⟨A, c, h1, h2, h3⟩ => ?_
  obtain ⟨b, o, bl, ol, cl, rfl, _, _, _, _, _, _, _, c2, _, c6, c7, _⟩ := h2.at_ (i := 0) (by rw [q9]; omega)
  have k1 : (y6.kept.getD 0 Kb.none).seq = 1 := q10
  have k2 : (y6.kept.getD 0 Kb.none).text = ⟨#[98]⟩ := q11
  have k3 : (y6.kept.getD 0 Kb.none).list.length = 3 := q12
  rw [k1] at c2
  rw [k2] at c6
  rw [k3] at c7
  simp only [Nat.zero_mul, Nat.add_zero] at c2 c6 c7
  exact ⟨b, o, c, bl, ol, cl, h1, c2, c6, c7, h.all.trans (h3.mono h.all.size)⟩
end
set_option maxHeartbeats 2000000 in
theorem awake_calls (w : World) : Calls Try.prog 14 #[] w fun e w' => e = .returned (.bool true) ∧ Below w.heap.size w w' := by
  have HN := Lib.hid (Vw.new w w (Below.refl _ _) 4 (by omega))
  have HL := Lib.hid (fun kd fr sq d w => vote_law kd fr sq d w)
  go_enter Try.func14, Try.ntmps14
  go_wp2_with (first
    | (go_at_call 13; (refine HN.out.mono ?_); rintro e w1 ⟨g, rfl, h⟩; have H0 : Hid (Vw w w1 g y0) := Lib.hid h; clear h)
    | (go_at_call 15; (first | (with_reducible refine (ex2 H1.out).mono ?_); rintro e w3 ⟨rfl, h⟩; have H2 := Lib.hid h; clear h | (with_reducible refine (ex1 H0.out).mono ?_); rintro e w2 ⟨rfl, h⟩; have H1 := Lib.hid h; clear h))
    | (go_at_call 17; (with_reducible refine (HL.out _ _ _ _ _).mono ?_); rintro e wv ⟨rfl, hv⟩; have HV := Lib.hid hv; clear hv)
    | (go_at_call 18; (first
        | (with_reducible refine (ex8 H6.out).mono ?_); rintro e w9 ⟨rfl, h⟩; have H8 := Lib.hid h; clear h
        | (with_reducible refine (ex6 H5.out).mono ?_); rintro e w7 ⟨rfl, h⟩; have H5b := Lib.hid h; clear h))
    | (go_at_call 21; (with_reducible refine (ex9 H8.out).mono ?_); rintro e w10 ⟨rfl, h⟩; have H9 := Lib.hid h; clear h)
    | (go_at_call 22; (refine (ex10 H9.out).mono ?_); rintro e w11 ⟨b, o, c, bl, ol, cl, rfl, c2, c6, c7, h⟩; have HE := Lib.hid h; clear h)
    | (go_at_call 16; (first
        | (with_reducible refine (ex7 (H5b.out.next HV.out)).mono ?_); rintro e w8 ⟨rfl, h⟩; have H6 := Lib.hid h; clear h HV
        | (with_reducible refine (ex5 (H4.out.next HV.out)).mono ?_); rintro e w6 ⟨⟨r, rfl⟩, h⟩; have H5 := Lib.hid h; clear h HV
        | (with_reducible refine (ex4 (H3.out.next HV.out)).mono ?_); rintro e w5 ⟨⟨r, rfl⟩, h⟩; have H4 := Lib.hid h; clear h HV
        | (with_reducible refine (ex3 (H2.out.next HV.out)).mono ?_); rintro e w4 ⟨⟨r, rfl⟩, h⟩; have H3 := Lib.hid h; clear h HV)))
  go_ret
  exact ⟨rfl, HE.out⟩
end Go.Proofs.Ytedndjbhgbdpoaa
