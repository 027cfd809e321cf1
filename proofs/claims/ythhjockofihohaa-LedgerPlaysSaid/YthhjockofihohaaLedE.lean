/- The contracts of Mark, Last, Account, New and around. -/
import Derived.Test.YthhjockofihohaaLedD
namespace Go.Proofs.Ythhjockofihohaa
open Go.RowKit
theorem lcells_mark (x : Led) {i : Nat} (s : Int) (t : ByteArray) : ((lcells x).set (i * 12 + 10) (.int .i64 s)).set (i * 12 + 11) (.string t) = lcells { x.upd i 10 s with r := fun j => if j = i then t else x.r j } := by
  rw [lcells_set x (k := 10) (by omega)]
  apply List.ext_getElem?
  intro j
  rw [List.getElem?_set, lcells_length]
  by_cases e : i * 12 + 11 = j
  · subst e
    rw [if_pos rfl]
    by_cases hl : i * 12 + 11 < (x.upd i 10 s).n * 12
    · rw [if_pos hl, lcells_text _ (show i < _ by show i < x.n; have : (x.upd i 10 s).n = x.n := rfl; omega)]
      show _ = some (Value.string (if i = i then t else x.r i))
      rw [if_pos rfl]
    · rw [if_neg hl, List.getElem?_eq_none]
      rw [lcells_length]; exact Nat.le_of_not_lt hl
  · rw [if_neg e]
    unfold lcells
    rw [List.getElem?_map, List.getElem?_map]
    by_cases hj : j < x.n * 12
    · rw [List.getElem?_range (show j < (x.upd i 10 s).n * 12 from hj), Option.map_some, Option.map_some]
      by_cases h11 : j % 12 = 11
      · rw [if_pos h11, if_pos h11]
        show some (Value.string (x.r (j / 12))) = some (Value.string (if j / 12 = i then t else x.r (j / 12)))
        rw [if_neg (by omega)]
      · rw [if_neg h11, if_neg h11]
    · rw [List.getElem?_eq_none (by simp; exact Nat.le_of_not_lt hj)]; rfl
theorem AtL.marked {w : World} {g gl : Nat} {x : Led} (h : AtL w g gl x) (i : Nat) (s : Int) (t : ByteArray) (hok : ({ x.upd i 10 s with r := fun j => if j = i then t else x.r j } : Led).Ok) :
    AtL ((w.setCell ⟨gl, i * 12 + 10, none⟩ (.int .i64 s)).setCell ⟨gl, i * 12 + 11, none⟩ (.string t)) g gl { x.upd i 10 s with r := fun j => if j = i then t else x.r j } := by
  refine ⟨(h.head.far h.ne _).far h.ne _, ?_, h.ne, hok⟩
  have := (h.list.set_ (i * 12 + 10) (.int .i64 s)).set_ (i * 12 + 11) (.string t)
  rw [List.setIfInBounds_toArray, List.setIfInBounds_toArray, lcells_mark] at this
  exact this
set_option maxHeartbeats 1000000 in
theorem mark_calls (w : World) (g gl : Nat) (x : Led) (h : AtL w g gl x) (who stamp : Int) (t : ByteArray) :
    Calls Try.prog 17 #[.pointer (some ⟨g, 0, none⟩), .int .i64 who, .int .i64 stamp, .string t] w fun e w' => e = .returned (.int .i64 (x.mark who stamp t).2) ∧ AtL w' g gl (x.mark who stamp t).1 ∧ Only (feetL gl) w w' := by
  have H := Lib.hid h
  by_cases hs : who < 0 ∨ x.n ≤ who
  · have HF := Lib.hid (find_bad w g gl x h who hs)
    have E : Hid (x.mark who stamp t = (x, 60)) := Lib.hid (by unfold Led.mark; rw [if_pos hs])
    rw [E.out]
    clear h hs
    go_enter Try.func17, Try.ntmps17
    go_wp2_with (first
      | (go_at_call 29; (with_reducible refine HF.out.mono ?_); rintro e w1 ⟨rfl, rfl⟩))
    go_ret
    exact ⟨rfl, H.out, Only.refl _ _⟩
  obtain ⟨i, rfl⟩ : ∃ i : Nat, who = (i : Int) := ⟨who.toNat, by omega⟩
  have hi : i < x.n := by omega
  have HF := Lib.hid (find_ok w g gl x h i hi)
  by_cases hb : stamp < 1 ∨ 1099511627776 < stamp ∨ 256 < t.size
  · have E : Hid (x.mark i stamp t = (x, 1)) := Lib.hid (by unfold Led.mark; rw [if_neg hs, if_pos hb])
    rw [E.out]
    clear h hs
    have hc : stamp < 1 ∨ (1 ≤ stamp ∧ 1099511627776 < stamp) ∨ (1 ≤ stamp ∧ stamp ≤ 1099511627776 ∧ 256 < t.size) := by omega
    clear hb
    rcases hc with h1 | ⟨h1, h2⟩ | ⟨h1, h2, h3⟩
    · go_enter Try.func17, Try.ntmps17
      go_wp2_with (first
        | (go_at_call 29; (with_reducible refine HF.out.mono ?_); rintro e w1 ⟨rfl, rfl⟩))
      go_ret
      exact ⟨rfl, H.out, Only.refl _ _⟩
    · go_enter Try.func17, Try.ntmps17
      go_wp2_with (first
        | (go_at_call 29; (with_reducible refine HF.out.mono ?_); rintro e w1 ⟨rfl, rfl⟩))
      go_ret
      exact ⟨rfl, H.out, Only.refl _ _⟩
    · have h4 : (256 : Int) < (t.size : Int) := by omega
      go_enter Try.func17, Try.ntmps17
      go_wp2_with (first
        | (go_at_call 29; (with_reducible refine HF.out.mono ?_); rintro e w1 ⟨rfl, rfl⟩))
      go_ret
      exact ⟨rfl, H.out, Only.refl _ _⟩
  · have h1 : 1 ≤ stamp := by omega
    have h2 : stamp ≤ 1099511627776 := by omega
    have h3 : ¬ (256 : Int) < (t.size : Int) := by omega
    have h5 : t.size ≤ 256 := by omega
    have k0 : w.cell? ⟨gl, i * 12 + 10, none⟩ = some (.int .i64 (x.z i 10)) := h.num hi (by omega)
    by_cases hst : stamp ≤ x.z i 10
    · have E : Hid (x.mark i stamp t = (x, 91)) := Lib.hid (by unfold Led.mark; rw [if_neg hs, if_neg hb, Int.toNat_natCast, if_pos hst])
      rw [E.out]
      clear h hs hb
      go_enter Try.func17, Try.ntmps17
      go_wp2_with (first
        | (go_at_call 29; (with_reducible refine HF.out.mono ?_); rintro e w1 ⟨rfl, rfl⟩))
      go_ret
      exact ⟨rfl, H.out, Only.refl _ _⟩
    · have hst' : x.z i 10 < stamp := by omega
      have E : Hid (x.mark i stamp t = ({ x.upd i 10 stamp with r := fun j => if j = i then t else x.r j }, 0)) := Lib.hid (by unfold Led.mark; rw [if_neg hs, if_neg hb, Int.toNat_natCast, if_neg hst])
      rw [E.out]
      have hN := Lib.hid (h.marked i stamp t (h.ok.stamped stamp (by omega) h2 _))
      have k1 : w.cell? ⟨gl, i * 12 + 11, none⟩ = some (.string (x.r i)) := h.text hi
      have f0 := h.list.frozen (i * 12 + 10)
      have f1 := h.list.frozen (i * 12 + 11)
      clear h hs hb hst
      go_enter Try.func17, Try.ntmps17
      go_wp2_with (first
        | (go_at_call 29; (with_reducible refine HF.out.mono ?_); rintro e w1 ⟨rfl, rfl⟩))
      go_ret
      exact ⟨rfl, hN.out, only_put (only_put (Only.refl _ _) _ _) _ _⟩
set_option maxHeartbeats 1000000 in
theorem last_calls (w : World) (g gl : Nat) (x : Led) (h : AtL w g gl x) (i : Nat) (hi : i < x.n) :
    Calls Try.prog 18 #[.pointer (some ⟨g, 0, none⟩), .int .i64 (i : Int)] w fun e w' => e = .returned (.tuple #[.int .i64 (x.z i 10), .string (x.r i)]) ∧ ∃ d, w' = w.drewN d := by
  have HF := Lib.hid (find_ok w g gl x h i hi)
  have k0 : w.cell? ⟨gl, i * 12 + 10, none⟩ = some (.int .i64 (x.z i 10)) := h.num hi (by omega)
  have k1 : w.cell? ⟨gl, i * 12 + 11, none⟩ = some (.string (x.r i)) := h.text hi
  clear h
  go_enter Try.func18, Try.ntmps18
  go_wp2_with (first
    | (go_at_call 29; (with_reducible refine HF.out.mono ?_); rintro e w1 ⟨rfl, rfl⟩))
  go_quiet (fail)
  go_wp2
  go_ret2
  exact ⟨rfl, _, rfl⟩
/-- What Account tells. -/
def told10 (x : Led) (i : Nat) : Value := .agg #[.int .i64 (x.z i 0), .int .i64 (x.z i 1), .int .i64 (x.z i 2), .int .i64 (x.z i 3), .int .i64 (x.z i 4), .int .i64 (x.z i 5), .int .i64 (x.z i 6), .int .i64 (x.z i 7), .int .i64 (x.z i 8), .int .i64 (x.z i 9)]
set_option maxHeartbeats 1000000 in
theorem account_calls (w : World) (g gl : Nat) (x : Led) (h : AtL w g gl x) (i : Nat) (hi : i < x.n) :
    Calls Try.prog 12 #[.pointer (some ⟨g, 0, none⟩), .int .i64 (i : Int)] w fun e w' => e = .returned (.tuple #[told10 x i, .bool true]) ∧ Below w.heap.size w w' := by
  have HF := Lib.hid (fun w1 (hb : Below w.heap.size w w1) => find_ok w1 g gl x (h.next hb) i hi)
  have HK : Hid (∀ w1, Below w.heap.size w w1 → ∀ k, k < 11 → w1.cell? ⟨gl, i * 12 + k, none⟩ = some (.int .i64 (x.z i k))) := Lib.hid fun w1 hb k hk => (h.next hb).num hi hk
  clear h
  go_enter Try.func12, Try.ntmps12
  go_upto_region 1 with (fail)
  have hb0 : Hid (Below w.heap.size w (w.alloc (.cells #[.int .i64 0, .int .i64 0, .int .i64 0, .int .i64 0, .int .i64 0, .int .i64 0, .int .i64 0, .int .i64 0, .int .i64 0, .int .i64 0] 36))) := Lib.hid ((Below.refl _ _).alloc (Nat.le_refl _) _)
  have k0 : World.cell? _ ⟨gl, i * 12, none⟩ = _ := HK.out _ hb0.out 0 (by omega)
  have k1 := HK.out _ hb0.out 1 (by omega)
  have k2 := HK.out _ hb0.out 2 (by omega)
  have k3 := HK.out _ hb0.out 3 (by omega)
  have k4 := HK.out _ hb0.out 4 (by omega)
  have k5 := HK.out _ hb0.out 5 (by omega)
  have k6 := HK.out _ hb0.out 6 (by omega)
  have k7 := HK.out _ hb0.out 7 (by omega)
  have k8 := HK.out _ hb0.out 8 (by omega)
  have k9 := HK.out _ hb0.out 9 (by omega)
  go_wp2_with (first
    | (go_at_call 29; (with_reducible refine (HF.out _ hb0.out).mono ?_); rintro e w1 ⟨rfl, rfl⟩))
  (try simp only [Exit.inBlock, Exit.then])
  refine bodyPost_ret (by simp [results, Try.results12, asAddr, go_sem]; rfl) rfl ?_
  exact ⟨rfl, (Below.refl _ _).alloc (Nat.le_refl _) _⟩
/-- An empty ledger. -/
def Led.fresh (n : Nat) (k : Int) : Led := ⟨n, k, fun _ _ => 0, fun _ => ⟨#[]⟩⟩
theorem fresh_tot (n : Nat) (k : Int) (p : Nat) : (Led.fresh n k).tot p = 0 := by
  unfold Led.tot Led.fresh
  show sumTo (fun _ => 0) n = 0
  induction n with
  | zero => rfl
  | succ n ih => rw [sumTo, ih]; rfl
theorem fresh_ok {n : Nat} {k : Int} (h1 : 1 ≤ n ∧ n ≤ 16) (h2 : 1 ≤ k ∧ k ≤ 4) : (Led.fresh n k).Ok :=
  ⟨h1, h2, fun _ _ => ⟨Int.le_refl _, Int.le_refl _⟩, fun _ _ _ _ => ⟨Int.le_refl _, Int.le_refl _⟩, fun _ _ _ _ _ => rfl, fun _ _ => ⟨Int.le_refl _, by show (0 : Int) ≤ _; omega⟩, by rw [fresh_tot]; omega, fun g _ => by rw [fresh_tot]; omega⟩
theorem info_entry : (Try.prog.info? 60).map (fun i => (i.zero, i.size, i.bytes)) = some (some (.agg #[.int .i64 0, .int .i64 0, .int .i64 0, .int .i64 0, .int .i64 0, .int .i64 0, .int .i64 0, .int .i64 0, .int .i64 0, .int .i64 0, .int .i64 0, .string ⟨#[]⟩]), 12, 104) := by kernel_rfl
theorem made_entries (n : Nat) (k : Int) : madeCells (Value.agg #[.int .i64 0, .int .i64 0, .int .i64 0, .int .i64 0, .int .i64 0, .int .i64 0, .int .i64 0, .int .i64 0, .int .i64 0, .int .i64 0, .int .i64 0, .string ⟨#[]⟩]).cells (n * 12) = (lcells (Led.fresh n k)).toArray := by
  apply Array.ext'
  unfold madeCells lcells
  simp only [Array.toList_map, Array.toList_range]
  refine List.map_congr_left fun j _ => ?_
  have h := Nat.mod_lt j (show 0 < 12 by omega)
  show (#[Value.int .i64 0, .int .i64 0, .int .i64 0, .int .i64 0, .int .i64 0, .int .i64 0, .int .i64 0, .int .i64 0, .int .i64 0, .int .i64 0, .int .i64 0, .string ⟨#[]⟩] : Array Value)[j % 12]! = if j % 12 = 11 then Value.string ⟨#[]⟩ else Value.int .i64 0
  generalize j % 12 = m at h
  rcases (show m = 0 ∨ m = 1 ∨ m = 2 ∨ m = 3 ∨ m = 4 ∨ m = 5 ∨ m = 6 ∨ m = 7 ∨ m = 8 ∨ m = 9 ∨ m = 10 ∨ m = 11 by omega) with rfl | rfl | rfl | rfl | rfl | rfl | rfl | rfl | rfl | rfl | rfl | rfl <;> rfl
theorem new_calls (n : Nat) (k : Int) (w : World) (h1 : 1 ≤ n ∧ n ≤ 16) (h2 : 1 ≤ k ∧ k ≤ 4) :
    Calls Try.prog 13 #[.int .i64 (n : Int), .int .i64 k] w fun e w' => ∃ g gl, e = .returned (.tuple #[.pointer (some ⟨g, 0, none⟩), .int .i64 0]) ∧ AtL w' g gl (Led.fresh n k) ∧ w.heap.size ≤ g ∧ w.heap.size ≤ gl ∧ Below w.heap.size w w' := by
  have hok := Lib.hid (fresh_ok h1 h2)
  obtain ⟨n1, n2⟩ := h1
  obtain ⟨k1, k2⟩ := h2
  have m1 : (1 : Int) ≤ (n : Int) := by omega
  have m2 : (n : Int) ≤ 16 := by omega
  obtain ⟨i0, hi0, hz0, hz1, hz2⟩ := info_parts info_entry
  have hmk : ∀ w, (Instr.makeSlice 56 (.int .i64 (n : Int)) (.int .i64 (n : Int))).run Try.prog w = .ok (.slice (some ⟨w.heap.size, 0, none⟩) n n) (w.alloc (.cells (lcells (Led.fresh n k)).toArray 60)) := fun w => by
    rw [run_make (P := Try.prog) w 56 60 i0 _ Try.underlying56 hi0 hz0 .i64 .i64 (n : Int) (n : Int) (by omega) (by omega) (by rw [hz2]; omega) (by omega)]
    rw [hz1, Int.toNat_natCast, made_entries n k]
  clear hi0 hz0 hz1 hz2 n1 n2
  go_enter Try.func13, Try.ntmps13
  go_wp2
  go_ret2
  refine ⟨w.heap.size + 1, w.heap.size, by simp, ⟨?_, (Blk.new w _ _).alloc _, by omega, hok.out⟩, by omega, Nat.le_refl _, ((Below.refl _ _).alloc (Nat.le_refl _) _).alloc (by simp) _⟩
  have := Blk.new (w.alloc (.cells (lcells (Led.fresh n k)).toArray 60)) 58 #[.int .i64 k, .slice (some ⟨w.heap.size, 0, none⟩) n n]
  simp at this
  exact this
def arnd (n : Int) (below : Nat) : Nat := (n.tmod below).natAbs
theorem arnd_lt (n : Int) {below : Nat} (h : 0 < below) : arnd n below < below := by
  unfold arnd
  have h1 := Int.lt_tmod_of_pos n (b := (below : Int)) (by omega)
  have h2 := Int.tmod_lt_of_pos n (b := (below : Int)) (by omega)
  omega
theorem around_calls (n : Int) (b : Nat) (hb : 0 < b) (hb2 : b ≤ 1000000) (w : World) :
    Calls Try.prog 10 #[.int .i64 n, .int .i64 (b : Int)] w fun e w' => e = .returned (.int .i64 (arnd n b : Int)) ∧ w = w' := by
  have h1 := Int.lt_tmod_of_pos n (b := (b : Int)) (by omega)
  have h2 := Int.tmod_lt_of_pos n (b := (b : Int)) (by omega)
  obtain ⟨q, hq⟩ : ∃ q, n.tmod (b : Int) = q := ⟨_, rfl⟩
  have E : Hid (((arnd n b : Nat) : Int) = if q < 0 then 0 - q else q) := Lib.hid (by unfold arnd; rw [hq]; split <;> omega)
  rw [hq] at h1 h2
  have hb3 : (0 : Int) < (b : Int) := by omega
  have hb4 : ¬ (b : Int) = 0 := by omega
  have hb5 : ¬ b = 0 := by omega
  by_cases h : q < 0
  · have e2 := E.out
    rw [if_pos h] at e2
    have E2 := Lib.hid e2
    have hw : IntKind.i64.wrap (0 - q) = 0 - q := by rw [IntKind.wrap_i64]; omega
    clear e2 E
    go_enter Try.func10, Try.ntmps10
    go_wp2
    go_ret
    exact ⟨by rw [E2.out]; simp, rfl⟩
  · have e2 := E.out
    rw [if_neg h] at e2
    have E2 := Lib.hid e2
    have h0 : 0 ≤ q := by omega
    clear e2 E
    go_enter Try.func10, Try.ntmps10
    go_wp2
    go_ret
    exact ⟨by rw [E2.out]; rfl, rfl⟩
theorem around11 (n : Int) (w : World) : Calls Try.prog 10 #[.int .i64 n, .int .i64 11] w fun e w' => e = .returned (.int .i64 (arnd n 11 : Int)) ∧ w = w' := around_calls n 11 (by omega) (by omega) w
theorem around4 (n : Int) (w : World) : Calls Try.prog 10 #[.int .i64 n, .int .i64 4] w fun e w' => e = .returned (.int .i64 (arnd n 4 : Int)) ∧ w = w' := around_calls n 4 (by omega) (by omega) w
end Go.Proofs.Ythhjockofihohaa
