/- The contract of Propose. -/
import Derived.Test.YtedndjbhgbdpoaaVNew
namespace Go.Proofs.Ytedndjbhgbdpoaa
open Go.RowKit
theorem text_none {d : ByteArray} (h : ¬ d = noText) : (d.toList == []) = false ∧ ¬ d.toList = [] ∧ (d.toList == noText.toList) = false := by
  have e : noText.toList = [] := by simp [noText, ByteArray.toList_eq]
  have h1 := text_apart h
  rw [e] at h1
  exact ⟨by simpa using h1, h1, by rw [e]; simpa using h1⟩
theorem Vl.put_ok {l : Vl} (h : l.Ok) {k : Nat} {s : Slot} (h1 : ∀ j i, s.votes j i ≠ none → 0 ≤ i ∧ i < l.n) (h2 : (s.kept.kind = 0 ∧ s.kept = Kb.none) ∨ (s.kept.kind = 11 ∧ 0 ≤ s.kept.view ∧ s.kept.view ≤ l.view ∧ (s.kept.list.length : Int) = l.quorum)) : (l.put k s).Ok := by
  refine ⟨h.n, h.view, h.low, fun k' j i hv => ?_, h.marks, fun k' => ?_⟩
  · unfold Vl.put at hv
    simp only at hv
    by_cases e : k' = k
    · rw [if_pos e] at hv; exact h1 j i hv
    · rw [if_neg e] at hv; exact h.votes k' j i hv
  · unfold Vl.put
    simp only
    by_cases e : k' = k
    · rw [if_pos e]; exact h2
    · rw [if_neg e]; exact h.kept k'
theorem AtV.same {w : World} {g gm : Nat} {gv gv' : Nat → Nat → Option Nat} {kv : Nat → Value} {l : Vl} (h : AtV w g gm gv' kv l) (e : gv' = gv) : AtV w g gm gv kv l := e ▸ h
theorem Vl.within_ix {l : Vl} (h : l.Ok) {seq : Int} (hw : l.within seq) : 0 ≤ seq ∧ seq ≤ 1073741832 := by
  have := h.low
  unfold Vl.within at hw
  omega
set_option maxHeartbeats 4000000 in
theorem propose_calls {w : World} {g gm : Nat} {gv : Nat → Nat → Option Nat} {kv : Nat → Value} {l : Vl} (h : AtV w g gm gv kv l) (view seq : Int) (d b : ByteArray) :
    Calls Try.prog 15 #[.pointer (some ⟨g, 0, none⟩), .int .i64 view, .int .i64 seq, .string d, .string b] w fun e w' => e = .returned (.int .i64 (l.propose view seq d b).2) ∧ (∃ kv', AtV w' g gm gv kv' (l.propose view seq d b).1) ∧ Only (fun x => x = g) w w' := by
  have H := Lib.hid h
  have HW := Lib.hid (within_calls h seq)
  have hend : Hid (∀ c, l.propose view seq d b = (l, c) → (∃ kv', AtV w g gm gv kv' (l.propose view seq d b).1) ∧ Only (fun x => x = g) w w) := Lib.hid fun c e => ⟨⟨kv, by rw [e]; exact H.out⟩, Only.refl _ _⟩
  obtain ⟨-, c1, -, -⟩ := h.head
  by_cases hd : d = noText
  · subst hd
    have E : Hid (l.propose view seq noText b = (l, 1)) := Lib.hid (by unfold Vl.propose; rw [if_pos rfl])
    clear h c1
    rw [E.out]
    rw [E.out] at hend
    unfold noText at *
    go_enter Try.func15, Try.ntmps15
    go_wp2
    go_ret
    exact ⟨rfl, hend.out 1 rfl⟩
  · obtain ⟨t1, t2, t3⟩ := text_none hd
    by_cases hv : view = l.view
    · have hv2 := Lib.hid hv
      by_cases hw : l.within seq
      · rw [decide_eq_true hw] at HW
        obtain ⟨h0, h1⟩ := Vl.within_ix h.ok hw
        have HA := Lib.hid (fun w => at_calls w g seq h0)
        have hk8 := ix_lt seq
        have c5 := h.field (k := ix seq) (j := 0) hk8 (by omega)
        have c6 := h.field (k := ix seq) (j := 1) hk8 (by omega)
        have c7 := h.field (k := ix seq) (j := 2) hk8 (by omega)
        have f5 := h.blk.frozen (3 + ix seq * 13)
        have f6 := h.blk.frozen (3 + ix seq * 13 + 1)
        have f7 := h.blk.frozen (3 + ix seq * 13 + 2)
        have hp : Hid (l.propose view seq d b = if (l.slots (ix seq)).has = false then ((l.put (ix seq) { l.slots (ix seq) with has := true, digest := d, batch := b }).keep seq, 0) else if (l.slots (ix seq)).digest = d ∧ (l.slots (ix seq)).batch = b then (l, 101) else (l, 102)) := Lib.hid (by
          unfold Vl.propose Vl.slot
          rw [if_neg hd, if_neg (fun hh => hh.elim (fun h1 => h1 hv) (fun h2 => h2 hw))])
        rw [← hv] at c1
        clear h hd hv hw
        obtain ⟨k, hk⟩ : ∃ k, ix seq = k := ⟨_, rfl⟩
        rw [hk] at HA hk8 c5 c6 c7 f5 f6 f7 hp
        obtain ⟨s, hs⟩ : ∃ s, Hid (l.slots k = s) := ⟨_, Lib.hid rfl⟩
        rw [hs.out] at c5 c6 c7 hp
        clear hk
        obtain ⟨hb, dg, bt, vo, ke⟩ := s
        simp only [slotCell, Nat.add_zero] at c5 c6 c7
        cases hb with
        | false =>
          have E : Hid (l.propose view seq d b = ((l.put k ⟨true, d, b, vo, ke⟩).keep seq, 0)) := Lib.hid (by rw [hp.out, if_pos rfl])
          clear hp hend
          have hok1 : (l.put k ⟨true, d, b, vo, ke⟩).Ok := by
            refine Vl.put_ok H.out.ok ?_ ?_
            · have := H.out.ok.votes k
              rw [hs.out] at this
              exact this
            · have := H.out.ok.kept k
              rw [hs.out] at this
              exact this
          have hv1 : ∀ j, j < ([.bool true, .string d, .string b] : List Value).length → ([.bool true, .string d, .string b] : List Value)[j]? = some (slotCell ⟨true, d, b, vo, ke⟩ (gv k) (kv k) (0 + j)) := by
            intro j hj
            simp only [List.length_cons, List.length_nil] at hj
            rcases (show j = 0 ∨ j = 1 ∨ j = 2 by omega) with rfl | rfl | rfl <;> rfl
          have hv2' : ∀ j, j < 13 → (j < 0 ∨ 0 + ([.bool true, .string d, .string b] : List Value).length ≤ j) → slotCell ⟨true, d, b, vo, ke⟩ (gv k) (kv k) j = slotCell (l.slots k) (gv k) (kv k) j := by
            intro j hj hj2
            simp only [List.length_cons, List.length_nil] at hj2
            rw [hs.out]
            rcases (show j = 3 ∨ j = 4 ∨ j = 5 ∨ j = 6 ∨ j = 7 ∨ j = 8 ∨ j = 9 ∨ j = 10 ∨ j = 11 ∨ j = 12 by omega) with rfl | rfl | rfl | rfl | rfl | rfl | rfl | rfl | rfl | rfl <;> rfl
          have hlist : ListAt w g (kv k) ke.list := by
            have := H.out.lists k hk8
            rw [hs.out] at this
            exact this
          have hput := H.out.slotPut (k := k) (o := 0) hk8 [.bool true, .string d, .string b] (by simp) ⟨true, d, b, vo, ke⟩ (gv k) (kv k) hv1 hv2' (fun j _ => .inl ⟨rfl, by rw [hs.out]; rfl⟩) hlist hok1
          rw [show (fun i => if i = k then gv k else gv i) = gv from by funext i; split <;> simp_all, show (fun i => if i = k then kv k else kv i) = kv from by funext i; split <;> simp_all] at hput
          have HP := Lib.hid hput
          have HK := Lib.hid (keep_calls hput seq h0)
          clear hput hv1 hv2' hlist hok1
          rw [E.out]
          go_enter Try.func15, Try.ntmps15
          go_wp2_with (first
            | (go_at_call 34; (with_reducible refine (HW.out).mono ?_); rintro e w1 ⟨rfl, rfl⟩)
            | (go_at_call 35; (with_reducible refine (HA.out _).mono ?_); rintro e w1 ⟨rfl, rfl⟩)
            | (go_at_call 36; (refine (HK.out).mono ?_); rintro e w3 ⟨rfl, hk1, hk2⟩; have HK1 := Lib.hid hk1; have HK2 := Lib.hid hk2; clear hk1 hk2))
          go_ret
          exact ⟨rfl, HK1.out, (only_setCells w g (3 + k * 13 + 0) _).trans HK2.out fun x hx => .inl hx⟩
        | true =>
          by_cases e1 : dg = d
          · subst e1
            by_cases e2 : bt = b
            · subst e2
              have E : Hid (l.propose view seq dg bt = (l, 101)) := Lib.hid (by rw [hp.out, if_neg (by simp), if_pos ⟨rfl, rfl⟩])
              rw [E.out]
              rw [E.out] at hend
              clear hp
              go_enter Try.func15, Try.ntmps15
              go_wp2_with (first
                | (go_at_call 34; (with_reducible refine (HW.out).mono ?_); rintro e w1 ⟨rfl, rfl⟩)
                | (go_at_call 35; (with_reducible refine (HA.out _).mono ?_); rintro e w1 ⟨rfl, rfl⟩))
              go_ret
              exact ⟨rfl, hend.out 101 rfl⟩
            · have E : Hid (l.propose view seq dg b = (l, 102)) := Lib.hid (by rw [hp.out, if_neg (by simp), if_neg (fun hh => e2 hh.2)])
              rw [E.out]
              rw [E.out] at hend
              have u1 := text_ne e2
              have u2 := text_apart e2
              clear hp e2
              go_enter Try.func15, Try.ntmps15
              go_wp2_with (first
                | (go_at_call 34; (with_reducible refine (HW.out).mono ?_); rintro e w1 ⟨rfl, rfl⟩)
                | (go_at_call 35; (with_reducible refine (HA.out _).mono ?_); rintro e w1 ⟨rfl, rfl⟩))
              go_ret
              exact ⟨rfl, hend.out 102 rfl⟩
          · have E : Hid (l.propose view seq d b = (l, 102)) := Lib.hid (by rw [hp.out, if_neg (by simp), if_neg (fun hh => e1 hh.1)])
            rw [E.out]
            rw [E.out] at hend
            have u1 := text_ne e1
            have u2 := text_apart e1
            clear hp e1
            go_enter Try.func15, Try.ntmps15
            go_wp2_with (first
              | (go_at_call 34; (with_reducible refine (HW.out).mono ?_); rintro e w1 ⟨rfl, rfl⟩)
              | (go_at_call 35; (with_reducible refine (HA.out _).mono ?_); rintro e w1 ⟨rfl, rfl⟩))
            go_ret
            exact ⟨rfl, hend.out 102 rfl⟩
      · have E : Hid (l.propose view seq d b = (l, 100)) := Lib.hid (by unfold Vl.propose; rw [if_neg hd, if_pos (.inr hw)])
        rw [E.out]
        rw [E.out] at hend
        rw [decide_eq_false hw] at HW
        rw [← hv] at c1
        clear h hd hw hv
        go_enter Try.func15, Try.ntmps15
        go_wp2_with (first
          | (go_at_call 34; (with_reducible refine (HW.out).mono ?_); rintro e w1 ⟨rfl, rfl⟩))
        go_ret
        exact ⟨rfl, hend.out 100 rfl⟩
    · have E : Hid (l.propose view seq d b = (l, 100)) := Lib.hid (by unfold Vl.propose; rw [if_neg hd, if_pos (.inl hv)])
      rw [E.out]
      rw [E.out] at hend
      have hb := show (view != l.view) = true from by simpa using hv
      clear h hd
      generalize l.view = vw at c1 hv hb
      go_enter Try.func15, Try.ntmps15
      go_wp2
      go_ret
      exact ⟨rfl, hend.out 100 rfl⟩
end Go.Proofs.Ytedndjbhgbdpoaa
