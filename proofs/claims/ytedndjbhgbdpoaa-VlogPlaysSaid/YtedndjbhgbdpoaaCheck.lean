/- The contract of Check. -/
import Derived.Test.YtedndjbhgbdpoaaEnter
namespace Go.Proofs.Ytedndjbhgbdpoaa
open Go.RowKit
set_option maxHeartbeats 4000000 in
theorem check_bad {w : World} {g gm : Nat} {gv : Nat → Nat → Option Nat} {kv : Nat → Value} {l : Vl} (h : AtV w g gm gv kv l) (m : Sg) (kind view seq c1 c2 : Int) (d tx : ByteArray) (ls : Value) (hbad : m.frm < 0 ∨ l.n ≤ m.frm ∨ kind ≠ 5) :
    Calls Try.prog 40 #[.pointer (some ⟨g, 0, none⟩), .agg #[.int .i64 m.frm, .string m.body, .string m.sig], .agg #[.int .i64 kind, .int .i64 view, .int .i64 seq, .int .i64 c1, .int .i64 c2, .string d, .string tx, ls]] w fun e w' => e = .returned (.int .i64 1) ∧ Below w.heap.size w w' := by
  obtain ⟨fr, bo, si⟩ := m
  obtain ⟨a1, a2, a3, a4⟩ := boxed h #[.int .i64 fr, .string bo, .string si] #[.int .i64 kind, .int .i64 view, .int .i64 seq, .int .i64 c1, .int .i64 c2, .string d, .string tx, ls] 48 46
  have hA := Lib.hid a1
  have hM := Lib.hid a2
  have hB := Lib.hid a3
  have hBl := Lib.hid a4
  clear a1 a2 a3 a4
  by_cases x1 : fr < 0
  · have y1 : decide (fr < 0) = true := by simpa using x1
    clear hbad
    go_enter Try.func40, Try.ntmps40
    go_upto_region 1 with (fail)
    generalize w.heap.size = gb at hM hB ⊢
    generalize World.alloc (World.alloc w _) _ = w2 at hA hM hB hBl ⊢
    have m0 : w2.cell? ⟨gb, 0, none⟩ = some (.int .i64 fr) := hM.out.cell 0
    have b0 : w2.cell? ⟨gb + 1, 0, none⟩ = some (.int .i64 kind) := hB.out.cell 0
    have b2 : w2.cell? ⟨gb + 1, 2, none⟩ = some (.int .i64 seq) := hB.out.cell 2
    obtain ⟨n0, n1, n2, n3⟩ := hA.out.head
    clear n0 n1 n2 n3
    go_quiet (fail)
    go_wp2
    go_ret
    exact ⟨rfl, below_draw hBl.out _⟩
  · have y1 : decide (fr < 0) = false := by simpa using x1
    by_cases x2 : l.n ≤ fr
    · have hn : Hid (∃ n, l.n = n) := Lib.hid ⟨_, rfl⟩
      clear hbad
      go_enter Try.func40, Try.ntmps40
      go_upto_region 1 with (fail)
      generalize w.heap.size = gb at hM hB ⊢
      generalize World.alloc (World.alloc w _) _ = w2 at hA hM hB hBl ⊢
      have m0 : w2.cell? ⟨gb, 0, none⟩ = some (.int .i64 fr) := hM.out.cell 0
      have b0 : w2.cell? ⟨gb + 1, 0, none⟩ = some (.int .i64 kind) := hB.out.cell 0
      have b2 : w2.cell? ⟨gb + 1, 2, none⟩ = some (.int .i64 seq) := hB.out.cell 2
      obtain ⟨n0, n1, n2, n3⟩ := hA.out.head
      obtain ⟨n, hn⟩ := hn.out
      rw [hn] at n0 x2
      have y2 : decide (n ≤ fr) = true := by simpa using x2
      clear hn n1 n2 n3
      go_quiet (fail)
      go_wp2
      go_ret
      exact ⟨rfl, below_draw hBl.out _⟩
    · have x3 : kind ≠ 5 := by
        rcases hbad with h1 | h1 | h1
        · exact absurd h1 x1
        · exact absurd h1 x2
        · exact h1
      have hn : Hid (∃ n, l.n = n) := Lib.hid ⟨_, rfl⟩
      have y3 : (kind != 5) = true := by simpa using x3
      clear hbad
      go_enter Try.func40, Try.ntmps40
      go_upto_region 1 with (fail)
      generalize w.heap.size = gb at hM hB ⊢
      generalize World.alloc (World.alloc w _) _ = w2 at hA hM hB hBl ⊢
      have m0 : w2.cell? ⟨gb, 0, none⟩ = some (.int .i64 fr) := hM.out.cell 0
      have b0 : w2.cell? ⟨gb + 1, 0, none⟩ = some (.int .i64 kind) := hB.out.cell 0
      have b2 : w2.cell? ⟨gb + 1, 2, none⟩ = some (.int .i64 seq) := hB.out.cell 2
      obtain ⟨n0, n1, n2, n3⟩ := hA.out.head
      obtain ⟨n, hn⟩ := hn.out
      rw [hn] at n0 x2
      have y2 : decide (n ≤ fr) = false := by simpa using x2
      clear hn n1 n2 n3
      go_quiet (fail)
      go_wp2
      go_ret
      exact ⟨rfl, below_draw hBl.out _⟩
def Mk.zero : Mk := ⟨⟨0, noText, noText⟩, 0, noText⟩
theorem zero_mark (w : World) : (zeroValue 94).run Try.prog w = .ok Mk.zero.val w := by kernel_rfl
theorem AtV.lookMark {w : World} {g gm : Nat} {gv : Nat → Nat → Option Nat} {kv : Nat → Value} {l : Vl} (h : AtV w g gm gv kv l) (i : Int) (hi : (Lit.int .i64 i).wf = true) (c : Bool) :
    (Instr.lookup 73 (.map (some gm)) (.int .i64 i) c).run Try.prog w = .ok (if c then .tuple #[((l.marks i).getD Mk.zero).val, .bool (l.marks i).isSome] else ((l.marks i).getD Mk.zero).val) w := by
  cases hv : l.marks i with
  | none => exact h.marks.miss Try.underlying3 Try.underlying73 c (zero_mark w) hi (by unfold marksOf; rw [hv]; rfl)
  | some v => exact h.marks.hit Try.underlying3 Try.underlying73 c ⟨_, zero_mark w⟩ hi (by unfold marksOf; rw [hv]; rfl)
theorem AtV.marked {w w' : World} {g gm : Nat} {gv : Nat → Nat → Option Nat} {kv : Nat → Value} {l : Vl} (h : AtV w g gm gv kv l) (i : Int) (v : Mk) (hi : 0 ≤ i ∧ i < l.n)
    (hm : MapAt Try.prog 3 w' gm (putAt (marksOf l) i v.val)) (hg : w.grownBy w' (some gm)) : AtV w' g gm gv kv { l with marks := putAt l.marks i v } := by
  obtain ⟨es, cl, h1⟩ := h.marks.cells
  have hne : gm ≠ g := fun e => by
    have h2 := h.blk
    unfold Blk at h2
    rw [e, h2] at h1; cases h1
  have hother : ∀ x, x ≠ gm → x < w.heap.size → w'.heap[x]? = w.heap[x]? := fun x hx hlt => hg.block x hlt (fun e => hx (Option.some.inj e))
  refine ⟨?_, fun k j hk hj => (h.maps k j hk hj).carry fun b hb hlt => hother b (h.apart k j b hk hj hb).1 hlt, ?_, fun k hk => (h.lists k hk).carry (fun b _ hlt hc => hother b (fun e => ?_) hlt) hg.size, h.apart, ⟨h.ok.n, h.ok.view, h.ok.low, h.ok.votes, fun x hx => ?_, h.ok.kept⟩⟩
  · have e : vcells { l with marks := putAt l.marks i v } gv kv gm = vcells l gv kv gm := rfl
    rw [e]
    unfold Blk
    rw [hother g (Ne.symm hne) h.blk.lt]
    exact h.blk
  · have e2 : marksOf { l with marks := putAt l.marks i v } = putAt (marksOf l) i v.val := by
      funext x
      unfold marksOf putAt
      simp only
      split <;> rfl
    rw [e2]; exact hm
  · subst e
    obtain ⟨cs, t, fr, hc⟩ := hc
    rw [hc] at h1; cases h1
  · unfold putAt at hx
    by_cases e : x = i
    · rw [e]; exact hi
    · simp only [if_neg e] at hx
      exact h.ok.marks x hx
theorem step_check (l : Vl) (m : Sg) (seq : Int) (d : ByteArray) (h0 : 0 ≤ m.frm) (hn : m.frm < l.n) :
    l.check m 5 seq d = if seq ≤ l.low then (l, 100) else
      if ((l.marks m.frm).getD Mk.zero).seq < seq then ({ l with marks := putAt l.marks m.frm ⟨m, seq, d⟩ }, 0)
      else if seq = ((l.marks m.frm).getD Mk.zero).seq ∧ d ≠ ((l.marks m.frm).getD Mk.zero).root then (l, 102) else (l, 101) := by
  unfold Vl.check
  rw [if_neg (by omega)]
  rfl
set_option maxHeartbeats 8000000 in
set_option maxRecDepth 100000 in
theorem check_in {w : World} {g gm : Nat} {gv : Nat → Nat → Option Nat} {kv : Nat → Value} {l : Vl} (h : AtV w g gm gv kv l) (m : Sg) (view seq c1 c2 : Int) (d tx : ByteArray) (ls : Value) (h0 : 0 ≤ m.frm) (hn : m.frm < l.n) :
    Calls Try.prog 40 #[.pointer (some ⟨g, 0, none⟩), .agg #[.int .i64 m.frm, .string m.body, .string m.sig], .agg #[.int .i64 5, .int .i64 view, .int .i64 seq, .int .i64 c1, .int .i64 c2, .string d, .string tx, ls]] w fun e w' => e = .returned (.int .i64 (l.check m 5 seq d).2) ∧ AtV w' g gm gv kv (l.check m 5 seq d).1 ∧ Only (fun x => x = gm) w w' := by
  have HV := Lib.hid (step_check l m seq d h0 hn)
  have HN0 := Lib.hid (show 0 ≤ m.frm ∧ m.frm < l.n from ⟨h0, hn⟩)
  have Hn13 : Hid (l.n ≤ 13) := Lib.hid (by have := h.ok.n; omega)
  have Hw0 : Hid (AtV w g gm gv kv l) := Lib.hid h
  have hlow := h.ok.low
  obtain ⟨fr, bo, si⟩ := m
  obtain ⟨a1, a2, a3, a4⟩ := boxed h #[.int .i64 fr, .string bo, .string si] #[.int .i64 5, .int .i64 view, .int .i64 seq, .int .i64 c1, .int .i64 c2, .string d, .string tx, ls] 48 46
  have hA := Lib.hid a1
  have hM := Lib.hid a2
  have hB := Lib.hid a3
  have hBl := Lib.hid a4
  clear a1 a2 a3 a4
  obtain ⟨n, hnn⟩ : ∃ n, Hid (l.n = n) := ⟨_, Lib.hid rfl⟩
  obtain ⟨lo, hlo⟩ : ∃ n, Hid (l.low = n) := ⟨_, Lib.hid rfl⟩
  rw [hlo.out] at hlow
  have y1 : decide (fr < 0) = false := by simpa using h0
  have y2 : decide (n ≤ fr) = false := by rw [← hnn.out]; simpa using hn
  have hfr : (Lit.int .i64 fr).wf = true := wf64 (by have : (0 : Int) ≤ fr := h0; have : fr < l.n := hn; have := Hn13.out; omega)
  have hend : Hid (∀ w' c, Below w.heap.size w w' → l.check ⟨fr, bo, si⟩ 5 seq d = (l, c) → AtV w' g gm gv kv (l.check ⟨fr, bo, si⟩ 5 seq d).1 ∧ Only (fun x => x = gm) w w') := Lib.hid fun w' c hb e => ⟨by rw [e]; exact Hw0.out.below hb, Only.of_below hb⟩
  clear hn h h0
  by_cases hs : seq ≤ lo
  · have E : Hid (l.check ⟨fr, bo, si⟩ 5 seq d = (l, 100)) := Lib.hid (HV.out.trans (if_pos (by rw [hlo.out]; exact hs)))
    clear hlow
    go_enter Try.func40, Try.ntmps40
    go_upto_region 1 with (fail)
    generalize w.heap.size = gb at hM hB ⊢
    generalize World.alloc (World.alloc w _) _ = w2 at hA hM hB hBl ⊢
    have m0 : w2.cell? ⟨gb, 0, none⟩ = some (.int .i64 fr) := hM.out.cell 0
    have b0 : w2.cell? ⟨gb + 1, 0, none⟩ = some (.int .i64 5) := hB.out.cell 0
    have b2 : w2.cell? ⟨gb + 1, 2, none⟩ = some (.int .i64 seq) := hB.out.cell 2
    obtain ⟨n0, n1, n2, n3⟩ := hA.out.head
    rw [hnn.out] at n0
    rw [hlo.out] at n2
    clear n1 n3
    go_quiet (fail)
    go_upto_region 3 with (fail)
    go_quiet (fail)
    go_wp2
    go_ret
    rw [E.out] at hend ⊢
    exact ⟨rfl, hend.out _ 100 (by repeat (first | exact hBl.out | refine below_draw ?_ _)) rfl⟩
  · have E := Lib.hid (HV.out.trans (if_neg (by rw [hlo.out]; exact hs)))
    go_enter Try.func40, Try.ntmps40
    go_upto_region 1 with (fail)
    generalize w.heap.size = gb at hM hB ⊢
    generalize World.alloc (World.alloc w _) _ = w2 at hA hM hB hBl ⊢
    have m0 : w2.cell? ⟨gb, 0, none⟩ = some (.int .i64 fr) := hM.out.cell 0
    have b0 : w2.cell? ⟨gb + 1, 0, none⟩ = some (.int .i64 5) := hB.out.cell 0
    have b2 : w2.cell? ⟨gb + 1, 2, none⟩ = some (.int .i64 seq) := hB.out.cell 2
    obtain ⟨n0, n1, n2, n3⟩ := hA.out.head
    rw [hnn.out] at n0
    rw [hlo.out] at n2
    clear n1 hlow
    go_quiet (fail)
    go_upto_region 3 with (fail)
    go_quiet (fail)
    go_upto_region 5 with (fail)
    generalize hw5 : World.drewN _ _ = w5
    have hb5 : Below w2.heap.size w2 w5 := by rw [← hw5]; repeat (first | exact Below.refl _ _ | refine below_draw ?_ _)
    have A5 := Lib.hid (hA.out.below hb5)
    have hbl5 := Lib.hid (below_next hBl.out hb5)
    have B5 := Lib.hid (hB.out.below hb5 hB.out.lt)
    have M5 := Lib.hid (hM.out.below hb5 hM.out.lt)
    clear hw5 hb5 m0 b0 b2 n0 n2 n3 hA hB hM hBl y1 y2 hs HV
    have hlkf : Hid (∀ wx, AtV wx g gm gv kv l → (Instr.lookup 73 (.map (some gm)) (.int .i64 fr) false).run Try.prog wx = .ok (((l.marks fr).getD Mk.zero).val) wx) := Lib.hid fun wx hx => hx.lookMark fr hfr false
    obtain ⟨v, hvv⟩ : ∃ v, Hid ((l.marks fr).getD Mk.zero = v) := ⟨_, Lib.hid rfl⟩
    rw [hvv.out] at hlkf
    have E1 : Hid (l.check ⟨fr, bo, si⟩ 5 seq d = if v.seq < seq then ({ l with marks := putAt l.marks fr ⟨⟨fr, bo, si⟩, seq, d⟩ }, 0) else if seq = v.seq ∧ d ≠ v.root then (l, 102) else (l, 101)) := Lib.hid (by rw [E.out, ← hvv.out])
    clear E
    obtain ⟨⟨fo, bd, sg⟩, sq, dd⟩ := v
    go_cut [7] from 36 (fun s7 wc => s7 = .pointer (some ⟨w5.heap.size, 0, none⟩) ∧ wc = (w5.alloc (.cells #[.int .i64 fo, .string bd, .string sg, .int .i64 sq, .string dd] 94)).drew)
    case first =>
      have m0 : w5.cell? ⟨gb, 0, none⟩ = some (.int .i64 fr) := M5.out.cell 0
      have v0 : w5.cell? ⟨g, 107, none⟩ = some (.map (some gm)) := A5.out.head.2.2.2
      have hlk2 : (Instr.lookup 73 (.map (some gm)) (.int .i64 fr) false).run Try.prog w5.drew = .ok (.agg #[.int .i64 fo, .string bd, .string sg, .int .i64 sq, .string dd]) w5.drew := hlkf.out _ (A5.out.drewN 1)
      have Az := Lib.hid (A5.out.below ((Below.refl w5.heap.size w5).alloc (Nat.le_refl _) (.cells #[.int .i64 0, .string ⟨#[]⟩, .string ⟨#[]⟩, .int .i64 0, .string ⟨#[]⟩] 94)))
      have v0y : (w5.alloc (.cells #[.int .i64 0, .string ⟨#[]⟩, .string ⟨#[]⟩, .int .i64 0, .string ⟨#[]⟩] 94)).cell? ⟨g, 107, none⟩ = some (.map (some gm)) := Az.out.head.2.2.2
      have m0z : (w5.alloc (.cells #[.int .i64 0, .string ⟨#[]⟩, .string ⟨#[]⟩, .int .i64 0, .string ⟨#[]⟩] 94)).cell? ⟨gb, 0, none⟩ = some (.int .i64 fr) := (M5.out.alloc _).cell 0
      have hlk4 : (Instr.lookup 73 (.map (some gm)) (.int .i64 fr) false).run Try.prog (w5.alloc (.cells #[.int .i64 0, .string ⟨#[]⟩, .string ⟨#[]⟩, .int .i64 0, .string ⟨#[]⟩] 94)).drew = .ok (.agg #[.int .i64 fo, .string bd, .string sg, .int .i64 sq, .string dd]) (w5.alloc (.cells #[.int .i64 0, .string ⟨#[]⟩, .string ⟨#[]⟩, .int .i64 0, .string ⟨#[]⟩] 94)).drew := hlkf.out _ (Az.out.drewN 1)
      go_region
      all_goals (go_wp2_with fail; go_meet; exact ⟨rfl, rfl⟩)
    case rest =>
      obtain ⟨rfl, hwc⟩ := hcut
      obtain ⟨w6, hw6⟩ : ∃ w6, w6 = wc := ⟨_, rfl⟩
      subst hw6
      have hb6 : Below w5.heap.size w5 w6 := by rw [hwc]; exact ((Below.refl _ _).alloc (Nat.le_refl _) _).drew
      have D6 : Hid (Blk w6 w5.heap.size 94 #[.int .i64 fo, .string bd, .string sg, .int .i64 sq, .string dd]) := Lib.hid (by rw [hwc]; exact (Blk.new _ _ _).drew)
      have A6 := Lib.hid (A5.out.below hb6)
      have M6 := Lib.hid (M5.out.below hb6 M5.out.lt)
      have B6 := Lib.hid (B5.out.below hb6 B5.out.lt)
      have hbl6 := Lib.hid (below_next hbl5.out hb6)
      generalize w5.heap.size = gd at D6 ⊢
      clear hwc hb6 M5 B5 A5 hbl5 hlkf
      have d3 : w6.cell? ⟨gd, 3, none⟩ = some (.int .i64 sq) := D6.out.cell 3
      have d4 : w6.cell? ⟨gd, 4, none⟩ = some (.string dd) := D6.out.cell 4
      have b2 : w6.cell? ⟨gb + 1, 2, none⟩ = some (.int .i64 seq) := B6.out.cell 2
      have b5 : w6.cell? ⟨gb + 1, 5, none⟩ = some (.string d) := B6.out.cell 5
      simp only at E1
      by_cases e1 : sq < seq
      · have E2 : Hid (l.check ⟨fr, bo, si⟩ 5 seq d = ({ l with marks := putAt l.marks fr ⟨⟨fr, bo, si⟩, seq, d⟩ }, 0)) := Lib.hid (by rw [E1.out, if_pos e1])
        clear E1 hend
        go_upto_region 7 with (fail)
        have m0 : w6.cell? ⟨gb, 0, none⟩ = some (.int .i64 fr) := M6.out.cell 0
        have m1 : w6.cell? ⟨gb, 1, none⟩ = some (.string bo) := M6.out.cell 1
        have m2 : w6.cell? ⟨gb, 2, none⟩ = some (.string si) := M6.out.cell 2
        have v0 : w6.cell? ⟨g, 107, none⟩ = some (.map (some gm)) := A6.out.head.2.2.2
        go_still_tail 12, (by kernel_rfl)
        change wpList _ _ _ _ _ w6.drew
        have A7 := Lib.hid (A6.out.drewN 1)
        have hi13 : 0 ≤ fr ∧ fr < 13 := by have := HN0.out; have := Hn13.out; simp only at *; omega
        refine wpList_put rfl (.tmp 52) (.tmp 54) (.tmp 60) 73 rfl Try.underlying3 Try.underlying73 gm (marksOf l) fr (.agg #[.int .i64 fr, .string bo, .string si, .int .i64 seq, .string d]) rfl A7.out.marks hi13 rfl rfl ?_
        intro w8 hm8 hg8
        have A8 := Lib.hid (A7.out.marked fr ⟨⟨fr, bo, si⟩, seq, d⟩ HN0.out hm8 hg8)
        have hO8 : Hid (Only (fun x => x = gm) w6.drew w8) := Lib.hid ((Only.of_grown hg8).mono fun x hx => Option.some.inj hx)
        clear hm8 hg8 hi13 m0 m1 m2 v0 d3 d4 b2 b5
        go_wp2
        go_ret
        rw [E2.out]
        exact ⟨rfl, A8.out, ((Only.of_below (S := fun x => x = gm) hbl6.out).drewN 1).trans hO8.out fun x hx => .inl hx⟩
      · by_cases e2 : seq = sq
        · subst e2
          by_cases e3 : d = dd
          · subst e3
            have E2 : Hid (l.check ⟨fr, bo, si⟩ 5 seq d = (l, 101)) := Lib.hid (by rw [E1.out, if_neg e1, if_neg (fun hh => hh.2 rfl)])
            clear E1
            go_wp2
            go_ret
            rw [E2.out] at hend ⊢
            exact ⟨rfl, hend.out _ 101 hbl6.out rfl⟩
          · have E2 : Hid (l.check ⟨fr, bo, si⟩ 5 seq d = (l, 102)) := Lib.hid (by rw [E1.out, if_neg e1, if_pos ⟨rfl, e3⟩])
            have u1 := text_ne e3
            have u2 := text_apart e3
            clear E1 e3
            go_wp2
            go_ret
            rw [E2.out] at hend ⊢
            exact ⟨rfl, hend.out _ 102 hbl6.out rfl⟩
        · have E2 : Hid (l.check ⟨fr, bo, si⟩ 5 seq d = (l, 101)) := Lib.hid (by rw [E1.out, if_neg e1, if_neg (fun hh => e2 hh.1)])
          have e4 : (seq == sq) = false := by simpa using e2
          clear E1
          go_wp2
          go_ret
          rw [E2.out] at hend ⊢
          exact ⟨rfl, hend.out _ 101 hbl6.out rfl⟩
end Go.Proofs.Ytedndjbhgbdpoaa
