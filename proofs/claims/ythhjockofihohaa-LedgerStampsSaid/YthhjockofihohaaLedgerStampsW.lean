/- The walk of LedgerStamps: a client's stamps rise, each is taken once, and what was answered last is told. -/
import Derived.Test.YthhjockofihohaaLedP
import Derived.Test.YthhjockofihohaaInts
namespace Go.Proofs.Ythhjockofihohaa
open Go.RowKit
/-- Behind some marks of client 1. -/
structure St (x : Led) (last : Int) (t : ByteArray) : Prop where
  n : x.n = 3
  stamp : x.z 1 10 = last
  text : 1 ≤ last → x.r 1 = t
  zero : x.z 0 10 = 0
  none_ : x.r 0 = ⟨#[]⟩
  pos : 0 ≤ last
theorem St.mark {x : Led} {last s : Int} {t : ByteArray} (h : St x last t) (h1 : 1 ≤ s) (h2 : s ≤ 1099511627776) (h3 : t.size ≤ 256) :
    (last < s ∧ (x.mark 1 s t).2 = 0 ∧ St (x.mark 1 s t).1 s t) ∨ (s ≤ last ∧ (x.mark 1 s t).2 = 91 ∧ (x.mark 1 s t).1 = x) := by
  have e1 : ¬ ((1 : Int) < 0 ∨ (x.n : Int) ≤ 1) := by rw [h.n]; omega
  have e2 : ¬ (s < 1 ∨ 1099511627776 < s ∨ 256 < t.size) := by omega
  have e3 : (1 : Int).toNat = 1 := rfl
  by_cases hs : s ≤ last
  · right
    refine ⟨hs, ?_, ?_⟩ <;> (unfold Led.mark; rw [if_neg e1, if_neg e2, e3, if_pos (by rw [h.stamp]; exact hs)])
  · left
    have E : x.mark 1 s t = ({ x.upd 1 10 s with r := fun i => if i = 1 then t else x.r i }, 0) := by
      unfold Led.mark; rw [if_neg e1, if_neg e2, e3, if_neg (by rw [h.stamp]; exact hs)]
    rw [E]
    exact ⟨by omega, rfl, ⟨h.n, by show (x.upd 1 10 s).z 1 10 = s; rw [Led.upd_at, if_pos ⟨rfl, rfl⟩], fun _ => by show (if (1 : Nat) = 1 then t else x.r 1) = t; rw [if_pos rfl], by show (x.upd 1 10 s).z 0 10 = 0; rw [Led.upd_at, if_neg (by omega)]; exact h.zero, by show (if (0 : Nat) = 1 then t else x.r 0) = _; rw [if_neg (by omega)]; exact h.none_, by omega⟩⟩
theorem St.bad {x : Led} {last s : Int} {t : ByteArray} (h : St x last t) (hb : s < 1 ∨ 1099511627776 < s ∨ 256 < t.size) : x.mark 1 s t = (x, 1) := by
  have e1 : ¬ ((1 : Int) < 0 ∨ (x.n : Int) ≤ 1) := by rw [h.n]; omega
  unfold Led.mark; rw [if_neg e1, if_pos hb]
set_option maxHeartbeats 8000000 in
set_option maxRecDepth 100000 in
theorem LedgerStamps_walk (w : World) (A : Option Addr) (n c : Nat) (L : List Int) (hn : L.length = n) (hmx : n ≤ 17592186044415) (hA : IRow w A L) (t : ByteArray) (ht : t.size ≤ 140737488351232) :
    Calls Try.prog 6 #[.slice A n c, .string t] w fun e w' => e = .returned (.bool true) ∧ Below w.heap.size w w' := by
  have HA := Lib.hid hA
  have HN := Lib.hid hn
  have HMX := Lib.hid hmx
  have HB := Lib.hid (begun_calls w none 0 0 (fun _ => ⟨0, 0, 0, 0, 0, ⟨#[]⟩⟩) (.inl rfl))
  have hS0 : Hid (St (Led.three.acts (fun _ => ⟨0, 0, 0, 0, 0, ⟨#[]⟩⟩) (min 0 100)) 0 t) := Lib.hid ⟨rfl, rfl, fun h => by omega, rfl, rfl, Int.le_refl _⟩
  generalize Led.three.acts (fun _ => ⟨0, 0, 0, 0, 0, ⟨#[]⟩⟩) (min 0 100) = x at HB hS0
  have tI : (t.size : Int) ≤ 140737488351232 := by omega
  clear hA hn hmx ht
  go_enter Try.func6, Try.ntmps6
  go_wp2_with (first
    | (go_at_call 7; (refine HB.out.mono ?_); rintro e w1 ⟨g, gl, rfl, h⟩; have H0 := Lib.hid h; clear h))
  clear HB
  go_loopg [6, 7] 61 (fun gk s6 s7 wr => ∃ i last y, gk = 61 - i ∧ i ≤ 60 ∧ s7 = .int .i64 ((i : Nat) : Int) ∧ s6 = .int .i64 last ∧ Hid (Lw w wr g gl y) ∧ Hid (St y last t))
  case atStart => exact ⟨0, 0, x, rfl, Nat.zero_le _, rfl, rfl, H0, hS0⟩
  case round =>
    clear H0 hS0 x
    obtain ⟨i, last, x, rfl, hi, rfl, rfl, H, hS⟩ := hrel
    have i0 : (0 : Int) ≤ (i : Int) := by omega
    by_cases hgo : i < n ∧ i < 60
    · obtain ⟨hin, hi60⟩ := hgo
      have i60 : (i : Int) < 60 := by omega
      have hinI : (i : Int) < (n : Int) := by omega
      have hl : i < L.length := by rw [HN.out]; exact hin
      obtain ⟨ba, oa, rfl⟩ := HA.out.some hl
      have c1 : wr.cell? ⟨ba, oa + i, none⟩ = some (.int .i64 (L.getD i 0)) := by
        obtain ⟨b', o', e, h1, h2⟩ := Row.at_ HA.out hl
        cases e; exact (below_cell H.out.all h1).trans h2
      generalize L.getD i 0 = s at c1
      clear hl
      by_cases hbad : s < 1 ∨ 1099511627776 < s ∨ 256 < t.size
      · have HM := Lib.hid (H.out.mark 1 s t)
        rw [hS.out.bad hbad] at HM
        have hc : s < 1 ∨ (1 ≤ s ∧ 1099511627776 < s) ∨ (1 ≤ s ∧ s ≤ 1099511627776 ∧ 256 < t.size) := by omega
        clear hbad
        rcases hc with h1 | ⟨h1, h2⟩ | ⟨h1, h2, h3⟩
        · go_wp2_with (first
            | (go_at_call 17; (refine HM.out.mono ?_); rintro e w2 ⟨rfl, h⟩; have H1 := Lib.hid h; clear h))
          go_roundg (61 - (i + 1))
          case measure => omega
          case rel => exact ⟨i + 1, last, x, rfl, by omega, by go_num, rfl, H1, hS⟩
        · go_wp2_with (first
            | (go_at_call 17; (refine HM.out.mono ?_); rintro e w2 ⟨rfl, h⟩; have H1 := Lib.hid h; clear h))
          go_roundg (61 - (i + 1))
          case measure => omega
          case rel => exact ⟨i + 1, last, x, rfl, by omega, by go_num, rfl, H1, hS⟩
        · have h4 : (256 : Int) < (t.size : Int) := by omega
          go_wp2_with (first
            | (go_at_call 17; (refine HM.out.mono ?_); rintro e w2 ⟨rfl, h⟩; have H1 := Lib.hid h; clear h))
          go_roundg (61 - (i + 1))
          case measure => omega
          case rel => exact ⟨i + 1, last, x, rfl, by omega, by go_num, rfl, H1, hS⟩
      · have h1 : 1 ≤ s := by omega
        have h2 : s ≤ 1099511627776 := by omega
        have h3 : ¬ (256 : Int) < (t.size : Int) := by omega
        have HM := Lib.hid (H.out.mark 1 s t)
        have hp := hS.out.pos
        rcases hS.out.mark h1 h2 (by omega) with ⟨q1, q2, q3⟩ | ⟨q1, q2, q3⟩
        · rw [q2] at HM
          generalize (x.mark 1 s t).1 = y at HM q3
          have S3 := Lib.hid q3
          have hmx : max last s = s := by omega
          have hlt : last < s := q1
          have hle : ¬ s ≤ last := by omega
          clear q2 q3 hbad H hS q1
          go_upto_region 16 with (first
            | (go_at_call 17; (refine HM.out.mono ?_); rintro e w2 ⟨rfl, h⟩; have H1 := Lib.hid h; clear h))
          have HL := Lib.hid (H1.out.last 1 (by rw [S3.out.n]; omega))
          rw [S3.out.stamp, S3.out.text h1] at HL
          have HM2 : Hid (∀ w1, Lw w w1 g gl y → Calls Try.prog 17 #[.pointer (some ⟨g, 0, none⟩), .int .i64 1, .int .i64 s, .string t] w1 fun e w' => e = .returned (.int .i64 91) ∧ Lw w w' g gl y) := Lib.hid fun w1 h => by
            have hm := h.mark 1 s t
            rcases S3.out.mark h1 h2 (by omega) with ⟨r1, _, _⟩ | ⟨_, r2, r3⟩
            · omega
            · rw [r2, r3] at hm; exact hm
          clear HM
          go_wp2_with (first
            | (go_at_call 18; (refine HL.out.mono ?_); rintro e w3 ⟨rfl, h⟩; have H2 := Lib.hid h; clear h)
            | (go_at_call 17; (refine (HM2.out _ H2.out).mono ?_); rintro e w4 ⟨rfl, h⟩; have H3 := Lib.hid h; clear h))
          go_roundg (61 - (i + 1))
          case measure => omega
          case rel => exact ⟨i + 1, s, y, rfl, by omega, by go_num, rfl, H3, S3⟩
        · rw [q2, q3] at HM
          have hmx : max last s = last := by omega
          have hle : s ≤ last := q1
          have hlt : ¬ last < s := by omega
          have hdl : decide (last < s) = false := by simpa using hlt
          have hS3 := hS
          clear q2 q3 hbad q1 H
          go_upto_region 16 with (first
            | (go_at_call 17; (refine HM.out.mono ?_); rintro e w2 ⟨rfl, h⟩; have H1 := Lib.hid h; clear h))
          have HL := Lib.hid (H1.out.last 1 (by rw [hS3.out.n]; omega))
          rw [hS3.out.stamp, hS3.out.text (by omega)] at HL
          have HM2 : Hid (∀ w1, Lw w w1 g gl x → Calls Try.prog 17 #[.pointer (some ⟨g, 0, none⟩), .int .i64 1, .int .i64 s, .string t] w1 fun e w' => e = .returned (.int .i64 91) ∧ Lw w w' g gl x) := Lib.hid fun w1 h => by
            have hm := h.mark 1 s t
            rcases hS3.out.mark h1 h2 (by omega) with ⟨r1, _, _⟩ | ⟨_, r2, r3⟩
            · omega
            · rw [r2, r3] at hm; exact hm
          clear HM
          go_wp2_with (first
            | (go_at_call 18; (refine HL.out.mono ?_); rintro e w3 ⟨rfl, h⟩; have H2 := Lib.hid h; clear h)
            | (go_at_call 17; (refine (HM2.out _ H2.out).mono ?_); rintro e w4 ⟨rfl, h⟩; have H3 := Lib.hid h; clear h))
          go_roundg (61 - (i + 1))
          case measure => omega
          case rel => exact ⟨i + 1, last, x, rfl, by omega, by go_num, rfl, H3, hS⟩
    · have HL1 : Hid (∀ w1, Lw w w1 g gl x → Calls Try.prog 18 #[.pointer (some ⟨g, 0, none⟩), .int .i64 1] w1 fun e w' => e = .returned (.tuple #[.int .i64 last, .string (x.r 1)]) ∧ Lw w w' g gl x) := Lib.hid fun w1 h => by
        have hm := h.last 1 (by rw [hS.out.n]; omega)
        rw [hS.out.stamp] at hm; exact hm
      have HL0 : Hid (∀ w1, Lw w w1 g gl x → Calls Try.prog 18 #[.pointer (some ⟨g, 0, none⟩), .int .i64 0] w1 fun e w' => e = .returned (.tuple #[.int .i64 0, .string ⟨#[]⟩]) ∧ Lw w w' g gl x) := Lib.hid fun w1 h => by
        have hm := h.last 0 (by rw [hS.out.n]; omega)
        rw [hS.out.zero, hS.out.none_] at hm; exact hm
      generalize x.r 1 = r1 at HL1
      by_cases hin : i < n
      · have hi60 : ¬ i < 60 := fun h => hgo ⟨hin, h⟩
        have hi60I : ¬ (i : Int) < 60 := by omega
        have hinI : (i : Int) < (n : Int) := by omega
        clear hgo hi
        go_wp2_with (first
          | (go_at_call 18; first
              | ((with_reducible refine (HL0.out _ H2.out).mono ?_); rintro e w4 ⟨rfl, h⟩; have H3 := Lib.hid h; clear h)
              | ((with_reducible refine (HL1.out _ H.out).mono ?_); rintro e w3 ⟨rfl, h⟩; have H2 := Lib.hid h; clear h))
          | (go_at_call 11; (with_reducible refine (awake_calls _).mono ?_); rintro e w5 ⟨rfl, hb⟩))
        go_ret
        exact ⟨rfl, H3.out.all.trans (hb.mono H3.out.all.size)⟩
      · clear hgo hi
        go_wp2_with (first
          | (go_at_call 18; first
              | ((with_reducible refine (HL0.out _ H2.out).mono ?_); rintro e w4 ⟨rfl, h⟩; have H3 := Lib.hid h; clear h)
              | ((with_reducible refine (HL1.out _ H.out).mono ?_); rintro e w3 ⟨rfl, h⟩; have H2 := Lib.hid h; clear h))
          | (go_at_call 11; (with_reducible refine (awake_calls _).mono ?_); rintro e w5 ⟨rfl, hb⟩))
        go_ret
        exact ⟨rfl, H3.out.all.trans (hb.mono H3.out.all.size)⟩
end Go.Proofs.Ythhjockofihohaa
