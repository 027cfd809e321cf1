/- The walk of CallCross: price, amount and fills are the document's; the orders stay. -/
import Derived.Test.YtilbhnloelgpdaaRFills
import Derived.Test.YtilbhnloelgpdaaRSame
import Derived.Test.YtilbhnloelgpdaaRCross
import Derived.OpenShut
namespace Go.Proofs.Ytilbhnloelgpdaa
open Go.RowKit
set_option linter.unusedVariables false
set_option linter.unusedSimpArgs false
set_option maxHeartbeats 8000000 in
set_option maxRecDepth 100000 in
theorem CallCross_walk (W : World) (A : Option Addr) (len c : Nat) (L : List Ord) (hlen : L.length = len) (hby : len * 48 ≤ 140737488351232) (h : ORow W A L) (price : Int) (hpw : (Lit.int .i64 price).wf = true) (amt : Int) (haw : (Lit.int .i64 amt).wf = true) :
    Calls Try.prog 3 #[.slice A len c, .int .i64 price, .int .i64 amt] W fun e w' => e = .returned (.bool true) ∧ Below W.heap.size W w' := by
  have hrg : -9223372036854775808 ≤ amt ∧ amt ≤ 9223372036854775807 := Go.bounds_i64 haw
  have HL := Lib.hid hlen
  have HS : Hid (∀ wx, Below W.heap.size W wx → Src Try.prog 6 22 (.slice A len c) len (ocells L) wx) := Lib.hid fun wx hb => by
    have := (h.below hb).src c
    rwa [hlen] at this
  have HX : Hid (∀ wx, Below W.heap.size W wx → Calls Try.prog 15 #[.slice A len c] wx (Told wx (.tuple #[.int .i64 (Ca.cross L).1, .int .i64 (Ca.cross L).2]))) := Lib.hid fun wx hb => by
    have := rcross_calls wx A L c (h.below hb)
    rwa [hlen] at this
  have HF : Hid (∀ wx, Below W.heap.size W wx → Calls Try.prog 18 #[.slice A len c, .int .i64 price, .int .i64 amt] wx (FLeft wx (Ca.fills L price amt))) := Lib.hid fun wx hb => by
    have := rfills_calls wx A L c price amt (h.below hb) hrg
    rwa [hlen] at this
  have HX1 : Hid (∀ wx A1 c1, ORow wx A1 L → Calls Try.prog 14 #[.slice A1 len c1] wx (Told wx (.tuple #[.int .i64 (Ca.cross L).1, .int .i64 (Ca.cross L).2]))) := Lib.hid fun wx A1 c1 h1 => by
    have := cross_calls wx A1 L c1 h1
    rwa [hlen] at this
  have HF1 : Hid (∀ wx A1 c1, ORow wx A1 L → Calls Try.prog 16 #[.slice A1 len c1, .int .i64 price, .int .i64 amt] wx (FLeft wx (Ca.fills L price amt))) := Lib.hid fun wx A1 c1 h1 => by
    have := fills_calls wx A1 L c1 price amt h1 hrg
    rwa [hlen] at this
  have HSm : Hid (∀ wx A1 c1, Below W.heap.size W wx → ORow wx A1 L → Calls Try.prog 19 #[.slice A1 len c1, .slice A len c] wx (Told wx (.bool true))) := Lib.hid fun wx A1 c1 hb h1 => by
    have := same_calls wx A1 A L c1 c h1 (h.below hb) (by omega)
    rwa [hlen] at this
  have hff := Ca.fills_few L price amt
  have HAw := Lib.hid (fun wx => awake_calls wx)
  generalize Ca.fills L price amt = F at HF HF1 hff
  have HSf : Hid (∀ wx A1 c1 A2 c2, FRow wx A1 F → FRow wx A2 F → Calls Try.prog 17 #[.slice A1 F.length c1, .slice A2 F.length c2] wx (Told wx (.bool true))) := Lib.hid fun wx A1 c1 A2 c2 h1 h2 => samefills_calls wx A1 A2 F c1 c2 h1 h2 (by omega)
  obtain ⟨P, hP⟩ : ∃ P, Hid ((Ca.cross L).1 = P) := ⟨_, Lib.hid rfl⟩
  obtain ⟨N, hN⟩ : ∃ N, Hid ((Ca.cross L).2 = N) := ⟨_, Lib.hid rfl⟩
  rw [hP.out, hN.out] at HX HX1
  obtain ⟨k, hk⟩ : ∃ k, Hid (F.length = k) := ⟨_, Lib.hid rfl⟩
  rw [hk.out] at HSf
  obtain ⟨i1, hi1, hy0, hy1, hy2⟩ := info_parts info_order
  have HI1 := Lib.hid hi1
  have HY0 := Lib.hid hy0
  have HY1 := Lib.hid hy1
  have HY2 := Lib.hid hy2
  have hA1 : Hid (0 + len ≤ maxLen) := Lib.hid (by unfold maxLen; omega)
  have hA2 : Hid ((0 + len) * 48 ≤ 140737488355328) := Lib.hid (by omega)
  clear hi1 hy0 hy1 hy2 h hrg hlen hby hpw haw
  go_enter Try.func3, Try.ntmps3
  go_upto_region 3 with (first
    | (at_builtin; (refine wpList_append_mine rfl (.tmp 13) (.tmp 14) 22 22 rfl 33 i1 (.agg #[.int .i64 0, .int .i64 0, .int .i64 0, .int .i64 0, .int .i64 0, .bool false]) 48 Try.underlying22 HI1.out HY0.out HY1.out HY2.out rfl (by decide) rfl (Mine.empty W _ 6 _) (Below.refl _ _) _ len (ocells L) rfl (HS.out _ (Below.refl _ _)) hA1.out hA2.out ?_); intro A1 c1 w1 hm1 hb1; rw [Nat.zero_add, List.nil_append] at hm1; rw [Nat.zero_add]; have HM1 := Lib.hid (hm1.orow HL.out).2; have HB1 := Lib.hid hb1; clear hm1 hb1))
  go_upto_region 4 with (go_at_call 14; (with_reducible refine (HX1.out _ _ _ HM1.out).mono ?_); rintro e w2 ⟨rfl, hh⟩; have HM2 := Lib.hid (HM1.out.below hh); have HB2 := Lib.hid (below_next HB1.out hh); clear hh)
  go_upto_region 5 with (go_at_call 15; (with_reducible refine (HX.out _ HB2.out).mono ?_); rintro e w3 ⟨rfl, hh⟩; have HM3 := Lib.hid (HM2.out.below hh); have HB3 := Lib.hid (below_next HB2.out hh); clear hh)
  go_upto_region 6 with (go_at_call 16; (with_reducible refine (HF1.out _ _ _ HM3.out).mono ?_); rintro e w4 ⟨A4, c4, rfl, hm4, hh⟩; rw [hk.out] at hm4 ⊢; have HM4 := Lib.hid (HM3.out.below hh); have HB4 := Lib.hid (below_next HB3.out hh); have HR4 := Lib.hid (hm4.frow hk.out).2; clear hh hm4)
  go_wp2_with (first
    | (go_at_call 18; (with_reducible refine (HF.out _ HB4.out).mono ?_); rintro e w5 ⟨A5, c5, rfl, hm5, hh⟩; rw [hk.out] at hm5 ⊢; have HM5 := Lib.hid (HM4.out.below hh); have HB5 := Lib.hid (below_next HB4.out hh); have HR5 := Lib.hid (HR4.out.below hh); have HR5' := Lib.hid (hm5.frow hk.out).2; clear hh hm5)
    | (go_at_call 17; (with_reducible refine (HSf.out _ _ _ _ _ HR5.out HR5'.out).mono ?_); rintro e w6 ⟨rfl, hh⟩; have HM6 := Lib.hid (HM5.out.below hh); have HB6 := Lib.hid (below_next HB5.out hh); clear hh)
    | (go_at_call 19; (with_reducible refine (HSm.out _ _ _ HB6.out HM6.out).mono ?_); rintro e w7 ⟨rfl, hh⟩; have HB7 := Lib.hid (below_next HB6.out hh); clear hh)
    | (go_at_call 20; (with_reducible refine (HAw.out _).mono ?_); rintro e w8 ⟨rfl, hh⟩; have HB8 := Lib.hid (below_next HB7.out hh); clear hh))
  refine bodyPost_ret (by simp [results, Try.results3, asAddr, go_sem]; rfl) rfl ?_
  exact ⟨rfl, HB8.out⟩
end Go.Proofs.Ytilbhnloelgpdaa
