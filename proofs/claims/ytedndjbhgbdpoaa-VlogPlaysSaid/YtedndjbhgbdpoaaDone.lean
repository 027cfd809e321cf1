/- The contracts of message, body and done. -/
import Derived.Test.YtedndjbhgbdpoaaVoted
import Derived.Test.YtedndjbhgbdpoaaScr
namespace Go.Proofs.Ytedndjbhgbdpoaa
open Go.RowKit
def arnd (n : Int) (below : Nat) : Nat := (n.tmod below).natAbs
theorem arnd_lt (n : Int) {below : Nat} (h : 0 < below) : arnd n below < below := by
  unfold arnd
  have h1 := Int.lt_tmod_of_pos n (b := (below : Int)) (by omega)
  have h2 := Int.tmod_lt_of_pos n (b := (below : Int)) (by omega)
  omega
theorem around_calls (n : Int) (b : Nat) (hb : 0 < b) (hb2 : b ≤ 1000000) (w : World) :
    Calls Try.prog 12 #[.int .i64 n, .int .i64 (b : Int)] w fun e w' => e = .returned (.int .i64 (arnd n b : Int)) ∧ w = w' := by
  have h1 := Int.lt_tmod_of_pos n (b := (b : Int)) (by omega)
  have h2 := Int.tmod_lt_of_pos n (b := (b : Int)) (by omega)
  obtain ⟨q, hq⟩ : ∃ q, n.tmod (b : Int) = q := ⟨_, rfl⟩
  have E : Hid (((arnd n b : Nat) : Int) = if q < 0 then 0 - q else q) := Lib.hid (by unfold arnd; rw [hq]; split <;> omega)
  rw [hq] at h1 h2
  have hb3 : (0 : Int) < (b : Int) := by omega
  have hb4 : ¬ (b : Int) = 0 := by omega
  have hb5 : ¬ b = 0 := by omega
  by_cases h : q < 0
  · have e2 := E.out
    rw [if_pos h] at e2
    have E2 := Lib.hid e2
    have hw : IntKind.i64.wrap (0 - q) = 0 - q := by rw [IntKind.wrap_i64]; omega
    clear e2 E
    go_enter Try.func12, Try.ntmps12
    go_wp2
    go_ret
    exact ⟨by rw [E2.out]; simp, rfl⟩
  · have e2 := E.out
    rw [if_neg h] at e2
    have E2 := Lib.hid e2
    have h0 : 0 ≤ q := by omega
    clear e2 E
    go_enter Try.func12, Try.ntmps12
    go_wp2
    go_ret
    exact ⟨by rw [E2.out]; rfl, rfl⟩
theorem around6 (n : Int) (w : World) : Calls Try.prog 12 #[.int .i64 n, .int .i64 6] w fun e w' => e = .returned (.int .i64 (arnd n 6 : Int)) ∧ w = w' := around_calls n 6 (by omega) (by omega) w
theorem around4 (n : Int) (w : World) : Calls Try.prog 12 #[.int .i64 n, .int .i64 4] w fun e w' => e = .returned (.int .i64 (arnd n 4 : Int)) ∧ w = w' := around_calls n 4 (by omega) (by omega) w
theorem message_calls (kd fr vw sq : Int) (d t : ByteArray) (w : World) :
    Calls Try.prog 38 #[.agg #[.int .i64 kd, .int .i64 fr, .int .i64 vw, .int .i64 sq, .string d, .string t]] w fun e w' => e = .returned (.agg #[.int .i64 fr, .string t, .string ⟨#[115]⟩]) ∧ Below w.heap.size w w' := by
  go_enter Try.func38, Try.ntmps38
  go_wp2
  (try simp only [Exit.inBlock, Exit.then])
  refine bodyPost_ret (by simp [results, Try.results38, asAddr, go_sem]; rfl) rfl ?_
  exact ⟨rfl, by repeat (first | exact Below.refl _ _ | (refine Below.setCell ?_ ?_ _; rotate_left; (try simp); rotate_left) | (refine Below.alloc ?_ (by simp) _))⟩
theorem body2_calls (kd fr vw sq : Int) (d t : ByteArray) (w : World) (hk : arnd kd 6 = 2) :
    Calls Try.prog 39 #[.agg #[.int .i64 kd, .int .i64 fr, .int .i64 vw, .int .i64 sq, .string d, .string t]] w fun e w' => e = .returned (.agg #[.int .i64 3, .int .i64 vw, .int .i64 sq, .int .i64 0, .int .i64 0, .string d, .string ⟨#[]⟩, .slice none 0 0]) ∧ Below w.heap.size w w' := by
  have HK := Lib.hid (fun w => around6 kd w)
  rw [hk] at HK
  clear hk
  go_enter Try.func39, Try.ntmps39
  go_wp2_with (first
    | (go_at_call 12; (with_reducible refine (HK.out _).mono ?_); rintro e w1 ⟨rfl, rfl⟩))
  (try simp only [Exit.inBlock, Exit.then])
  refine bodyPost_ret (by simp [results, Try.results39, asAddr, go_sem]; rfl) rfl ?_
  exact ⟨rfl, by repeat (first | exact Below.refl _ _ | (refine Below.setCell ?_ ?_ _; rotate_left; (try simp); rotate_left) | (refine Below.alloc ?_ (by simp) _))⟩
theorem body3_calls (kd fr vw sq : Int) (d t : ByteArray) (w : World) (hk : arnd kd 6 = 3) :
    Calls Try.prog 39 #[.agg #[.int .i64 kd, .int .i64 fr, .int .i64 vw, .int .i64 sq, .string d, .string t]] w fun e w' => e = .returned (.agg #[.int .i64 4, .int .i64 vw, .int .i64 sq, .int .i64 0, .int .i64 0, .string d, .string ⟨#[]⟩, .slice none 0 0]) ∧ Below w.heap.size w w' := by
  have HK := Lib.hid (fun w => around6 kd w)
  rw [hk] at HK
  clear hk
  go_enter Try.func39, Try.ntmps39
  go_wp2_with (first
    | (go_at_call 12; (with_reducible refine (HK.out _).mono ?_); rintro e w1 ⟨rfl, rfl⟩))
  (try simp only [Exit.inBlock, Exit.then])
  refine bodyPost_ret (by simp [results, Try.results39, asAddr, go_sem]; rfl) rfl ?_
  exact ⟨rfl, by repeat (first | exact Below.refl _ _ | (refine Below.setCell ?_ ?_ _; rotate_left; (try simp); rotate_left) | (refine Below.alloc ?_ (by simp) _))⟩
theorem body4_calls (kd fr vw sq : Int) (d t : ByteArray) (w : World) (hk : arnd kd 6 = 4) :
    Calls Try.prog 39 #[.agg #[.int .i64 kd, .int .i64 fr, .int .i64 vw, .int .i64 sq, .string d, .string t]] w fun e w' => e = .returned (.agg #[.int .i64 5, .int .i64 0, .int .i64 sq, .int .i64 0, .int .i64 0, .string d, .string ⟨#[]⟩, .slice none 0 0]) ∧ Below w.heap.size w w' := by
  have HK := Lib.hid (fun w => around6 kd w)
  rw [hk] at HK
  clear hk
  go_enter Try.func39, Try.ntmps39
  go_wp2_with (first
    | (go_at_call 12; (with_reducible refine (HK.out _).mono ?_); rintro e w1 ⟨rfl, rfl⟩))
  (try simp only [Exit.inBlock, Exit.then])
  refine bodyPost_ret (by simp [results, Try.results39, asAddr, go_sem]; rfl) rfl ?_
  exact ⟨rfl, by repeat (first | exact Below.refl _ _ | (refine Below.setCell ?_ ?_ _; rotate_left; (try simp); rotate_left) | (refine Below.alloc ?_ (by simp) _))⟩
def sOf (a : VAct) : Sg := ⟨a.frm, a.t, ⟨#[115]⟩⟩
def Vl.act (l : Vl) (a : VAct) : Vl × Int :=
  if arnd a.kind 6 = 0 then l.enter a.view else if arnd a.kind 6 = 1 then l.propose a.view a.seq a.d a.t else if arnd a.kind 6 = 2 then l.vote (sOf a) 3 a.view a.seq a.d
  else if arnd a.kind 6 = 3 then l.vote (sOf a) 4 a.view a.seq a.d else if arnd a.kind 6 = 4 then l.check (sOf a) 5 a.seq a.d else l.cut a.seq
def feetW (g gm : Nat) (gv : Nat → Nat → Option Nat) : Nat → Prop := fun b => b = g ∨ b = gm ∨ ∃ k j, k < 8 ∧ j < 2 ∧ gv k j = some b
section
variable {w : World} {g gm : Nat} {gv : Nat → Nat → Option Nat} {kv : Nat → Value} {l : Vl}
theorem VoteTo.same {w' : World} (h : AtV w g gm gv kv l) (hb : Below w.heap.size w w') : VoteTo w w' g gm gv l := ⟨gv, kv, h.below hb, fun _ _ _ _ _ h => .inl h⟩
theorem vote_any (h : AtV w g gm gv kv l) (m : Sg) (kk : Int) (hkk : kk = 3 ∨ kk = 4) (view seq : Int) (d tx : ByteArray) (c1 c2 : Int) (ls : Value) :
    Calls Try.prog 37 #[.pointer (some ⟨g, 0, none⟩), .agg #[.int .i64 m.frm, .string m.body, .string m.sig], .agg #[.int .i64 kk, .int .i64 view, .int .i64 seq, .int .i64 c1, .int .i64 c2, .string d, .string tx, ls]] w fun e w' => e = .returned (.int .i64 (l.vote m kk view seq d).2) ∧ VoteTo w w' g gm gv (l.vote m kk view seq d).1 ∧ Only (feetV g gv) w w' := by
  by_cases hbad : m.frm < 0 ∨ l.n ≤ m.frm
  · have E : l.vote m kk view seq d = (l, 1) := by unfold Vl.vote; rw [if_pos (hbad.elim .inl fun h => .inr (.inl h))]
    rw [E]
    exact (vote_bad h m kk view seq c1 c2 d tx ls (hbad.elim .inl fun h => .inr (.inl h))).mono fun e w' ⟨h1, h2⟩ => ⟨h1, VoteTo.same h h2, Only.of_below h2⟩
  · have h0 : 0 ≤ m.frm := by omega
    have hn : m.frm < l.n := by omega
    by_cases hout : view ≠ l.view ∨ ¬ l.within seq
    · have E : l.vote m kk view seq d = (l, 100) := by unfold Vl.vote; rw [if_neg (by omega), if_pos hout]
      rw [E]
      rcases hkk with rfl | rfl
      · exact (vote_out3 h m view seq c1 c2 d tx ls h0 hn hout).mono fun e w' ⟨h1, h2⟩ => ⟨h1, VoteTo.same h h2, Only.of_below h2⟩
      · exact (vote_out4 h m view seq c1 c2 d tx ls h0 hn hout).mono fun e w' ⟨h1, h2⟩ => ⟨h1, VoteTo.same h h2, Only.of_below h2⟩
    · have hv : view = l.view := Classical.not_not.1 fun e => hout (.inl e)
      have hin : l.within seq := Classical.not_not.1 fun e => hout (.inr e)
      subst hv
      rcases hkk with rfl | rfl
      · exact vote_in3 h m seq c1 c2 d tx ls h0 hn hin
      · exact vote_in4 h m seq c1 c2 d tx ls h0 hn hin
theorem check_any (h : AtV w g gm gv kv l) (m : Sg) (view seq : Int) (d tx : ByteArray) (c1 c2 : Int) (ls : Value) :
    Calls Try.prog 40 #[.pointer (some ⟨g, 0, none⟩), .agg #[.int .i64 m.frm, .string m.body, .string m.sig], .agg #[.int .i64 5, .int .i64 view, .int .i64 seq, .int .i64 c1, .int .i64 c2, .string d, .string tx, ls]] w fun e w' => e = .returned (.int .i64 (l.check m 5 seq d).2) ∧ VoteTo w w' g gm gv (l.check m 5 seq d).1 ∧ Only (fun b => b = gm) w w' := by
  by_cases hbad : m.frm < 0 ∨ l.n ≤ m.frm
  · have E : l.check m 5 seq d = (l, 1) := by unfold Vl.check; rw [if_pos (hbad.elim .inl fun h => .inr (.inl h))]
    rw [E]
    exact (check_bad h m 5 view seq c1 c2 d tx ls (hbad.elim .inl fun h => .inr (.inl h))).mono fun e w' ⟨h1, h2⟩ => ⟨h1, VoteTo.same h h2, Only.of_below h2⟩
  · exact (check_in h m view seq c1 c2 d tx ls (by omega) (by omega)).mono fun e w' ⟨h1, h2, h3⟩ => ⟨h1, ⟨gv, kv, h2, fun _ _ _ _ _ h => .inl h⟩, h3⟩
def DidAct (w : World) (g gm : Nat) (gv : Nat → Nat → Option Nat) (l : Vl) (a : VAct) (e : Ending) (w' : World) : Prop := e = .returned (.int .i64 (l.act a).2) ∧ VoteTo w w' g gm gv (l.act a).1 ∧ Only (feetW g gm gv) w w'
theorem didAct {w0 w1 w' : World} {a : VAct} {r : Vl × Int} {S : Nat → Prop} (hr : l.act a = r) (hb : Below w0.heap.size w0 w1) (h : VoteTo w1 w' g gm gv r.1) (ho : Only S w1 w') (hS : ∀ b, S b → feetW g gm gv b) : DidAct w0 g gm gv l a (.returned (.int .i64 r.2)) w' := by
  subst hr
  refine ⟨rfl, ?_, (Only.of_below hb).trans (ho.mono hS) fun b h => .inl h⟩
  obtain ⟨gv', kv', h1, h2⟩ := h
  exact ⟨gv', kv', h1, fun k j b hk hj hb' => (h2 k j b hk hj hb').imp_right fun h => Nat.le_trans hb.size h⟩
set_option maxHeartbeats 2000000 in
theorem done0 (h : AtV w g gm gv kv l) (a : VAct) (hk : arnd a.kind 6 = 0) : Calls Try.prog 16 #[.pointer (some ⟨g, 0, none⟩), .agg (acells a).toArray] w (DidAct w g gm gv l a) := by
  have E : Hid (l.act a = l.enter a.view) := Lib.hid (by unfold Vl.act; simp only [hk]; rfl)
  obtain ⟨kd, fr, vw, sq, d, t⟩ := a
  simp only at hk E
  have HK := Lib.hid (fun w => around6 kd w)
  rw [hk] at HK
  have HB : Hid (Below w.heap.size w (w.alloc (.cells #[.int .i64 kd, .int .i64 fr, .int .i64 vw, .int .i64 sq, .string d, .string t] 32))) := Lib.hid ((Below.refl _ _).alloc (Nat.le_refl _) _)
  have HA := Lib.hid (h.below HB.out)
  unfold acells
  have HC := Lib.hid (enter_calls HA.out vw)
  clear h hk
  go_enter Try.func16, Try.ntmps16
  go_wp2_with (first
    | (go_at_call 12; (with_reducible refine (HK.out _).mono ?_); rintro e w1 ⟨rfl, rfl⟩)
    | (go_at_call 29; (refine HC.out.mono ?_); rintro e w2 ⟨rfl, h1, h2⟩; have H1 := Lib.hid h1; have H2 := Lib.hid h2; clear h1 h2))
  go_ret
  exact didAct E.out HB.out H1.out H2.out (fun b hb => .inl hb)
set_option maxHeartbeats 2000000 in
theorem done1 (h : AtV w g gm gv kv l) (a : VAct) (hk : arnd a.kind 6 = 1) : Calls Try.prog 16 #[.pointer (some ⟨g, 0, none⟩), .agg (acells a).toArray] w (DidAct w g gm gv l a) := by
  have E : Hid (l.act a = l.propose a.view a.seq a.d a.t) := Lib.hid (by unfold Vl.act; simp only [hk]; rfl)
  obtain ⟨kd, fr, vw, sq, d, t⟩ := a
  simp only at hk E
  have HK := Lib.hid (fun w => around6 kd w)
  rw [hk] at HK
  have HB : Hid (Below w.heap.size w (w.alloc (.cells #[.int .i64 kd, .int .i64 fr, .int .i64 vw, .int .i64 sq, .string d, .string t] 32))) := Lib.hid ((Below.refl _ _).alloc (Nat.le_refl _) _)
  have HA := Lib.hid (h.below HB.out)
  unfold acells
  have HC := Lib.hid (propose_calls HA.out vw sq d t)
  clear h hk
  go_enter Try.func16, Try.ntmps16
  go_wp2_with (first
    | (go_at_call 12; (with_reducible refine (HK.out _).mono ?_); rintro e w1 ⟨rfl, rfl⟩)
    | (go_at_call 15; (refine HC.out.mono ?_); rintro e w2 ⟨rfl, h1, h2⟩; have H1 := Lib.hid h1; have H2 := Lib.hid h2; clear h1 h2))
  go_ret
  exact didAct E.out HB.out (by obtain ⟨kv', hh⟩ := H1.out; exact ⟨gv, kv', hh, fun _ _ _ _ _ h => .inl h⟩) H2.out (fun b hb => .inl hb)
set_option maxHeartbeats 2000000 in
theorem done5 (h : AtV w g gm gv kv l) (a : VAct) (hk : arnd a.kind 6 = 5) : Calls Try.prog 16 #[.pointer (some ⟨g, 0, none⟩), .agg (acells a).toArray] w (DidAct w g gm gv l a) := by
  have E : Hid (l.act a = l.cut a.seq) := Lib.hid (by unfold Vl.act; simp only [hk]; rfl)
  obtain ⟨kd, fr, vw, sq, d, t⟩ := a
  simp only at hk E
  have HK := Lib.hid (fun w => around6 kd w)
  rw [hk] at HK
  have HB : Hid (Below w.heap.size w (w.alloc (.cells #[.int .i64 kd, .int .i64 fr, .int .i64 vw, .int .i64 sq, .string d, .string t] 32))) := Lib.hid ((Below.refl _ _).alloc (Nat.le_refl _) _)
  have HA := Lib.hid (h.below HB.out)
  unfold acells
  have HC := Lib.hid (cut_calls HA.out sq)
  clear h hk
  go_enter Try.func16, Try.ntmps16
  go_wp2_with (first
    | (go_at_call 12; (with_reducible refine (HK.out _).mono ?_); rintro e w1 ⟨rfl, rfl⟩)
    | (go_at_call 27; (refine HC.out.mono ?_); rintro e w2 ⟨rfl, h1, h2⟩; have H1 := Lib.hid h1; have H2 := Lib.hid h2; clear h1 h2))
  go_ret
  exact didAct E.out HB.out H1.out H2.out (fun b hb => .inl hb)
set_option maxHeartbeats 2000000 in
theorem done2 (h : AtV w g gm gv kv l) (a : VAct) (hk : arnd a.kind 6 = 2) : Calls Try.prog 16 #[.pointer (some ⟨g, 0, none⟩), .agg (acells a).toArray] w (DidAct w g gm gv l a) := by
  have E : Hid (l.act a = l.vote (sOf a) 3 a.view a.seq a.d) := Lib.hid (by unfold Vl.act; simp only [hk]; rfl)
  obtain ⟨kd, fr, vw, sq, d, t⟩ := a
  simp only at hk E
  have HK := Lib.hid (fun w => around6 kd w)
  rw [hk] at HK
  have HB : Hid (Below w.heap.size w (w.alloc (.cells #[.int .i64 kd, .int .i64 fr, .int .i64 vw, .int .i64 sq, .string d, .string t] 32))) := Lib.hid ((Below.refl _ _).alloc (Nat.le_refl _) _)
  have HA := Lib.hid (h.below HB.out)
  unfold acells
  have HC := Lib.hid (fun wx (hx : AtV wx g gm gv kv l) => vote_any hx ⟨fr, t, ⟨#[115]⟩⟩ 3 (by decide) vw sq d ⟨#[]⟩ 0 0 (.slice none 0 0))
  have HM := Lib.hid (fun w => message_calls kd fr vw sq d t w)
  have HD := Lib.hid (fun w => body2_calls kd fr vw sq d t w hk)
  have B0 : Hid (Blk (w.alloc (.cells #[.int .i64 kd, .int .i64 fr, .int .i64 vw, .int .i64 sq, .string d, .string t] 32)) w.heap.size 32 #[.int .i64 kd, .int .i64 fr, .int .i64 vw, .int .i64 sq, .string d, .string t]) := Lib.hid (Blk.new _ _ _)
  have HNF : Hid (¬ (feetV g gv) w.heap.size) := Lib.hid (fun hh => by rcases hh with hh | ⟨k, j, hk', hj, hb⟩; exact absurd h.blk.lt (by omega); exact absurd (h.mapAt hk' hj hb).lt (by omega))
  clear h hk
  go_enter Try.func16, Try.ntmps16
  go_upto_region 8 with (first
    | (go_at_call 12; (with_reducible refine (HK.out _).mono ?_); rintro e w1 ⟨rfl, rfl⟩))
  obtain ⟨b0, hb0⟩ : ∃ b0, w.heap.size = b0 := ⟨_, rfl⟩
  rw [hb0] at B0 ⊢
  have HBS := Lib.hid hb0
  clear hb0
  generalize World.alloc w _ = w1 at HB HA B0 ⊢
  have HS : Hid (∀ w' : World, Below w1.heap.size w1 w' → (w'.cell? ⟨b0, 0, none⟩ = some (.int .i64 kd) ∧ w'.cell? ⟨b0, 1, none⟩ = some (.int .i64 fr) ∧ w'.cell? ⟨b0, 2, none⟩ = some (.int .i64 vw) ∧ w'.cell? ⟨b0, 3, none⟩ = some (.int .i64 sq) ∧ w'.cell? ⟨b0, 4, none⟩ = some (.string d) ∧ w'.cell? ⟨b0, 5, none⟩ = some (.string t))) := Lib.hid fun w' hb => by
    have B := B0.out.below hb B0.out.lt
    exact ⟨B.cell 0, B.cell 1, B.cell 2, B.cell 3, B.cell 4, B.cell 5⟩
  have HCC := Lib.hid (fun wx (hx : Below w1.heap.size w1 wx) => HC.out wx (HA.out.below hx))
  have HS2 : Hid (∀ w' w2 : World, Below w1.heap.size w1 w' → Only (feetV g gv) w' w2 → (w2.cell? ⟨b0, 0, none⟩ = some (.int .i64 kd) ∧ w2.cell? ⟨b0, 1, none⟩ = some (.int .i64 fr) ∧ w2.cell? ⟨b0, 2, none⟩ = some (.int .i64 vw) ∧ w2.cell? ⟨b0, 3, none⟩ = some (.int .i64 sq) ∧ w2.cell? ⟨b0, 4, none⟩ = some (.string d) ∧ w2.cell? ⟨b0, 5, none⟩ = some (.string t))) := Lib.hid fun w' w2 hb ho => by
    have B := B0.out.below hb B0.out.lt
    have B2 : Blk w2 b0 32 #[.int .i64 kd, .int .i64 fr, .int .i64 vw, .int .i64 sq, .string d, .string t] := (ho.block b0 B.lt ((by rw [← HBS.out]; exact HNF.out))).trans B
    exact ⟨B2.cell 0, B2.cell 1, B2.cell 2, B2.cell 3, B2.cell 4, B2.cell 5⟩
  have Hd0 : Hid (Below w1.heap.size w1 w1.drew) := Lib.hid (Below.refl _ _).drew
  go_region_held3 (fun w' => w'.cell? ⟨b0, 0, none⟩ = some (.int .i64 kd) ∧ w'.cell? ⟨b0, 1, none⟩ = some (.int .i64 fr) ∧ w'.cell? ⟨b0, 2, none⟩ = some (.int .i64 vw) ∧ w'.cell? ⟨b0, 3, none⟩ = some (.int .i64 sq) ∧ w'.cell? ⟨b0, 4, none⟩ = some (.string d) ∧ w'.cell? ⟨b0, 5, none⟩ = some (.string t))
    (first | exact HS.out _ Hd0.out | exact HS.out _ (below_next Hd0.out hbm) | exact HS.out _ (below_next Hd0.out hbd) | exact HS.out _ (below_next (below_next Hd0.out hbm) hbd) | exact HS.out _ (below_next (below_next Hd0.out hbd) hbm) | exact HS2.out _ _ (below_next (below_next Hd0.out hbm) hbd) h2 | exact HS2.out _ _ (below_next (below_next Hd0.out hbd) hbm) h2)
    (first
      | (go_at_call 38; (with_reducible refine (HM.out _).mono ?_); rintro e wm ⟨rfl, hbm⟩)
      | (go_at_call 39; (with_reducible refine (HD.out _).mono ?_); rintro e wd ⟨rfl, hbd⟩)
      | (go_at_call 37; (first | refine (HCC.out _ (below_next (below_next Hd0.out hbm) hbd)).mono ?_ | refine (HCC.out _ (below_next (below_next Hd0.out hbd) hbm)).mono ?_); rintro e w2 ⟨rfl, h1, h2⟩))
  all_goals
    go_wp2
    go_ret
    first
      | exact didAct E.out (below_next HB.out (below_next (below_next Hd0.out hbm) hbd)) h1 h2 (fun b hb => hb.imp_right .inr)
      | exact didAct E.out (below_next HB.out (below_next (below_next Hd0.out hbd) hbm)) h1 h2 (fun b hb => hb.imp_right .inr)
set_option maxHeartbeats 2000000 in
theorem done3 (h : AtV w g gm gv kv l) (a : VAct) (hk : arnd a.kind 6 = 3) : Calls Try.prog 16 #[.pointer (some ⟨g, 0, none⟩), .agg (acells a).toArray] w (DidAct w g gm gv l a) := by
  have E : Hid (l.act a = l.vote (sOf a) 4 a.view a.seq a.d) := Lib.hid (by unfold Vl.act; simp only [hk]; rfl)
  obtain ⟨kd, fr, vw, sq, d, t⟩ := a
  simp only at hk E
  have HK := Lib.hid (fun w => around6 kd w)
  rw [hk] at HK
  have HB : Hid (Below w.heap.size w (w.alloc (.cells #[.int .i64 kd, .int .i64 fr, .int .i64 vw, .int .i64 sq, .string d, .string t] 32))) := Lib.hid ((Below.refl _ _).alloc (Nat.le_refl _) _)
  have HA := Lib.hid (h.below HB.out)
  unfold acells
  have HC := Lib.hid (fun wx (hx : AtV wx g gm gv kv l) => vote_any hx ⟨fr, t, ⟨#[115]⟩⟩ 4 (by decide) vw sq d ⟨#[]⟩ 0 0 (.slice none 0 0))
  have HM := Lib.hid (fun w => message_calls kd fr vw sq d t w)
  have HD := Lib.hid (fun w => body3_calls kd fr vw sq d t w hk)
  have B0 : Hid (Blk (w.alloc (.cells #[.int .i64 kd, .int .i64 fr, .int .i64 vw, .int .i64 sq, .string d, .string t] 32)) w.heap.size 32 #[.int .i64 kd, .int .i64 fr, .int .i64 vw, .int .i64 sq, .string d, .string t]) := Lib.hid (Blk.new _ _ _)
  have HNF : Hid (¬ (feetV g gv) w.heap.size) := Lib.hid (fun hh => by rcases hh with hh | ⟨k, j, hk', hj, hb⟩; exact absurd h.blk.lt (by omega); exact absurd (h.mapAt hk' hj hb).lt (by omega))
  clear h hk
  go_enter Try.func16, Try.ntmps16
  go_upto_region 8 with (first
    | (go_at_call 12; (with_reducible refine (HK.out _).mono ?_); rintro e w1 ⟨rfl, rfl⟩))
  obtain ⟨b0, hb0⟩ : ∃ b0, w.heap.size = b0 := ⟨_, rfl⟩
  rw [hb0] at B0 ⊢
  have HBS := Lib.hid hb0
  clear hb0
  generalize World.alloc w _ = w1 at HB HA B0 ⊢
  have HS : Hid (∀ w' : World, Below w1.heap.size w1 w' → (w'.cell? ⟨b0, 0, none⟩ = some (.int .i64 kd) ∧ w'.cell? ⟨b0, 1, none⟩ = some (.int .i64 fr) ∧ w'.cell? ⟨b0, 2, none⟩ = some (.int .i64 vw) ∧ w'.cell? ⟨b0, 3, none⟩ = some (.int .i64 sq) ∧ w'.cell? ⟨b0, 4, none⟩ = some (.string d) ∧ w'.cell? ⟨b0, 5, none⟩ = some (.string t))) := Lib.hid fun w' hb => by
    have B := B0.out.below hb B0.out.lt
    exact ⟨B.cell 0, B.cell 1, B.cell 2, B.cell 3, B.cell 4, B.cell 5⟩
  have HCC := Lib.hid (fun wx (hx : Below w1.heap.size w1 wx) => HC.out wx (HA.out.below hx))
  have HS2 : Hid (∀ w' w2 : World, Below w1.heap.size w1 w' → Only (feetV g gv) w' w2 → (w2.cell? ⟨b0, 0, none⟩ = some (.int .i64 kd) ∧ w2.cell? ⟨b0, 1, none⟩ = some (.int .i64 fr) ∧ w2.cell? ⟨b0, 2, none⟩ = some (.int .i64 vw) ∧ w2.cell? ⟨b0, 3, none⟩ = some (.int .i64 sq) ∧ w2.cell? ⟨b0, 4, none⟩ = some (.string d) ∧ w2.cell? ⟨b0, 5, none⟩ = some (.string t))) := Lib.hid fun w' w2 hb ho => by
    have B := B0.out.below hb B0.out.lt
    have B2 : Blk w2 b0 32 #[.int .i64 kd, .int .i64 fr, .int .i64 vw, .int .i64 sq, .string d, .string t] := (ho.block b0 B.lt ((by rw [← HBS.out]; exact HNF.out))).trans B
    exact ⟨B2.cell 0, B2.cell 1, B2.cell 2, B2.cell 3, B2.cell 4, B2.cell 5⟩
  have Hd0 : Hid (Below w1.heap.size w1 w1.drew) := Lib.hid (Below.refl _ _).drew
  go_region_held3 (fun w' => w'.cell? ⟨b0, 0, none⟩ = some (.int .i64 kd) ∧ w'.cell? ⟨b0, 1, none⟩ = some (.int .i64 fr) ∧ w'.cell? ⟨b0, 2, none⟩ = some (.int .i64 vw) ∧ w'.cell? ⟨b0, 3, none⟩ = some (.int .i64 sq) ∧ w'.cell? ⟨b0, 4, none⟩ = some (.string d) ∧ w'.cell? ⟨b0, 5, none⟩ = some (.string t))
    (first | exact HS.out _ Hd0.out | exact HS.out _ (below_next Hd0.out hbm) | exact HS.out _ (below_next Hd0.out hbd) | exact HS.out _ (below_next (below_next Hd0.out hbm) hbd) | exact HS.out _ (below_next (below_next Hd0.out hbd) hbm) | exact HS2.out _ _ (below_next (below_next Hd0.out hbm) hbd) h2 | exact HS2.out _ _ (below_next (below_next Hd0.out hbd) hbm) h2)
    (first
      | (go_at_call 38; (with_reducible refine (HM.out _).mono ?_); rintro e wm ⟨rfl, hbm⟩)
      | (go_at_call 39; (with_reducible refine (HD.out _).mono ?_); rintro e wd ⟨rfl, hbd⟩)
      | (go_at_call 37; (first | refine (HCC.out _ (below_next (below_next Hd0.out hbm) hbd)).mono ?_ | refine (HCC.out _ (below_next (below_next Hd0.out hbd) hbm)).mono ?_); rintro e w2 ⟨rfl, h1, h2⟩))
  all_goals
    go_wp2
    go_ret
    first
      | exact didAct E.out (below_next HB.out (below_next (below_next Hd0.out hbm) hbd)) h1 h2 (fun b hb => hb.imp_right .inr)
      | exact didAct E.out (below_next HB.out (below_next (below_next Hd0.out hbd) hbm)) h1 h2 (fun b hb => hb.imp_right .inr)
set_option maxHeartbeats 2000000 in
theorem done4 (h : AtV w g gm gv kv l) (a : VAct) (hk : arnd a.kind 6 = 4) : Calls Try.prog 16 #[.pointer (some ⟨g, 0, none⟩), .agg (acells a).toArray] w (DidAct w g gm gv l a) := by
  have E : Hid (l.act a = l.check (sOf a) 5 a.seq a.d) := Lib.hid (by unfold Vl.act; simp only [hk]; rfl)
  obtain ⟨kd, fr, vw, sq, d, t⟩ := a
  simp only at hk E
  have HK := Lib.hid (fun w => around6 kd w)
  rw [hk] at HK
  have HB : Hid (Below w.heap.size w (w.alloc (.cells #[.int .i64 kd, .int .i64 fr, .int .i64 vw, .int .i64 sq, .string d, .string t] 32))) := Lib.hid ((Below.refl _ _).alloc (Nat.le_refl _) _)
  have HA := Lib.hid (h.below HB.out)
  unfold acells
  have HC := Lib.hid (fun wx (hx : AtV wx g gm gv kv l) => check_any hx ⟨fr, t, ⟨#[115]⟩⟩ 0 sq d ⟨#[]⟩ 0 0 (.slice none 0 0))
  have HM := Lib.hid (fun w => message_calls kd fr vw sq d t w)
  have HD := Lib.hid (fun w => body4_calls kd fr vw sq d t w hk)
  have B0 : Hid (Blk (w.alloc (.cells #[.int .i64 kd, .int .i64 fr, .int .i64 vw, .int .i64 sq, .string d, .string t] 32)) w.heap.size 32 #[.int .i64 kd, .int .i64 fr, .int .i64 vw, .int .i64 sq, .string d, .string t]) := Lib.hid (Blk.new _ _ _)
  have HNF : Hid (¬ (fun b => b = gm) w.heap.size) := Lib.hid (fun hh => by have hh' : w.heap.size = gm := hh; exact absurd h.marks.lt (by omega))
  clear h hk
  go_enter Try.func16, Try.ntmps16
  go_upto_region 10 with (first
    | (go_at_call 12; (with_reducible refine (HK.out _).mono ?_); rintro e w1 ⟨rfl, rfl⟩))
  obtain ⟨b0, hb0⟩ : ∃ b0, w.heap.size = b0 := ⟨_, rfl⟩
  rw [hb0] at B0 ⊢
  have HBS := Lib.hid hb0
  clear hb0
  generalize World.alloc w _ = w1 at HB HA B0 ⊢
  have HS : Hid (∀ w' : World, Below w1.heap.size w1 w' → (w'.cell? ⟨b0, 0, none⟩ = some (.int .i64 kd) ∧ w'.cell? ⟨b0, 1, none⟩ = some (.int .i64 fr) ∧ w'.cell? ⟨b0, 2, none⟩ = some (.int .i64 vw) ∧ w'.cell? ⟨b0, 3, none⟩ = some (.int .i64 sq) ∧ w'.cell? ⟨b0, 4, none⟩ = some (.string d) ∧ w'.cell? ⟨b0, 5, none⟩ = some (.string t))) := Lib.hid fun w' hb => by
    have B := B0.out.below hb B0.out.lt
    exact ⟨B.cell 0, B.cell 1, B.cell 2, B.cell 3, B.cell 4, B.cell 5⟩
  have HCC := Lib.hid (fun wx (hx : Below w1.heap.size w1 wx) => HC.out wx (HA.out.below hx))
  have HS2 : Hid (∀ w' w2 : World, Below w1.heap.size w1 w' → Only (fun b => b = gm) w' w2 → (w2.cell? ⟨b0, 0, none⟩ = some (.int .i64 kd) ∧ w2.cell? ⟨b0, 1, none⟩ = some (.int .i64 fr) ∧ w2.cell? ⟨b0, 2, none⟩ = some (.int .i64 vw) ∧ w2.cell? ⟨b0, 3, none⟩ = some (.int .i64 sq) ∧ w2.cell? ⟨b0, 4, none⟩ = some (.string d) ∧ w2.cell? ⟨b0, 5, none⟩ = some (.string t))) := Lib.hid fun w' w2 hb ho => by
    have B := B0.out.below hb B0.out.lt
    have B2 : Blk w2 b0 32 #[.int .i64 kd, .int .i64 fr, .int .i64 vw, .int .i64 sq, .string d, .string t] := (ho.block b0 B.lt ((by rw [← HBS.out]; exact HNF.out))).trans B
    exact ⟨B2.cell 0, B2.cell 1, B2.cell 2, B2.cell 3, B2.cell 4, B2.cell 5⟩
  have Hd0 : Hid (Below w1.heap.size w1 w1.drew) := Lib.hid (Below.refl _ _).drew
  go_region_held3 (fun w' => w'.cell? ⟨b0, 0, none⟩ = some (.int .i64 kd) ∧ w'.cell? ⟨b0, 1, none⟩ = some (.int .i64 fr) ∧ w'.cell? ⟨b0, 2, none⟩ = some (.int .i64 vw) ∧ w'.cell? ⟨b0, 3, none⟩ = some (.int .i64 sq) ∧ w'.cell? ⟨b0, 4, none⟩ = some (.string d) ∧ w'.cell? ⟨b0, 5, none⟩ = some (.string t))
    (first | exact HS.out _ Hd0.out | exact HS.out _ (below_next Hd0.out hbm) | exact HS.out _ (below_next Hd0.out hbd) | exact HS.out _ (below_next (below_next Hd0.out hbm) hbd) | exact HS.out _ (below_next (below_next Hd0.out hbd) hbm) | exact HS2.out _ _ (below_next (below_next Hd0.out hbm) hbd) h2 | exact HS2.out _ _ (below_next (below_next Hd0.out hbd) hbm) h2)
    (first
      | (go_at_call 38; (with_reducible refine (HM.out _).mono ?_); rintro e wm ⟨rfl, hbm⟩)
      | (go_at_call 39; (with_reducible refine (HD.out _).mono ?_); rintro e wd ⟨rfl, hbd⟩)
      | (go_at_call 40; (first | refine (HCC.out _ (below_next (below_next Hd0.out hbm) hbd)).mono ?_ | refine (HCC.out _ (below_next (below_next Hd0.out hbd) hbm)).mono ?_); rintro e w2 ⟨rfl, h1, h2⟩))
  all_goals
    go_wp2
    go_ret
    first
      | exact didAct E.out (below_next HB.out (below_next (below_next Hd0.out hbm) hbd)) h1 h2 (fun b hb => .inr (.inl hb))
      | exact didAct E.out (below_next HB.out (below_next (below_next Hd0.out hbd) hbm)) h1 h2 (fun b hb => .inr (.inl hb))
end
end Go.Proofs.Ytedndjbhgbdpoaa
